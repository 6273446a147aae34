/- AutoSame: the walk. Printed by gen-lwh.py. -/
import Derived.Test.YtkkdpafkafjfgaaDoorAsPLwB
import Derived.Test.YtkkdpafkafjfgaaDoorAsPGlK
import Derived.Deep.DeepCutAuto
namespace Go.Proofs.YtkkdpafkafjfgaaDoor
open Go.RowKit RR
set_option linter.unusedVariables false
set_option linter.unusedSimpArgs false
set_option maxRecDepth 100000
theorem oper_load_autH {o : Oper} {a : Act} {w : World} {K : Act → World → Prop} {Q : Exit → Act → World → Prop} {x : Operand} (ho : o.op = .load 30 x) {b : Nat} {av : Array Value} (hx : a.eval x = .pointer (some ⟨b, 0, none⟩)) (hA : w.heap[b]? = some (.cells av 30 (0, 0))) (hs : av.size = 258)
    (h : K (a.put o.dst (.agg av)) w) : Oper.wp Tryd.prog o a w K Q := by
  have hl := run_loadVar_row (P := Tryd.prog) w b 30 30 av (0, 0) _ hA Tryd.underlying30 rfl (by rw [hs]; exact info_aut)
  unfold Oper.wp execOp
  simp only [ho, hx, Instr.loadAt, Instr.sureAddr, Sem.run_bind, Sem.run_pure, Result.andThen_ok, hl]
  exact h
theorem kids_at1 {w : World} {b : Nat} {p : Pat} {kv : Value} (hb : w.heap[b]? = some (.cells #[.int .i64 p.kind, .string p.text, .int .i64 p.n, .string p.name, kv] 24 (0, 0))) (hp : PatV w kv p) : KidsAt w (.slice (some ⟨b, 0, none⟩) 1 1) [p] := by
  refine Or.inr ⟨b, 0, 1, rfl, by simp, Nat.le_refl _, by decide, fun i hi => ?_⟩
  obtain rfl : i = 0 := by simp at hi; omega
  exact .shut (v := kv) ⟨cell_of hb 0, cell_of hb 1, cell_of hb 2, cell_of hb 3, cell_of hb 4, hp.hk, hp.hn, hp.ht, hp.hm⟩ hp.kids
abbrev MakeEnd (w : World) (p : Pat) : Ending → World → Prop := fun e w' => ∃ v, e = .returned (.tuple #[.agg v, .int .i64 (makeErr p)]) ∧ Grew w w' ∧ v.size = 258 ∧ v.all (·.oneCell') = true ∧ MkN w.heap.size w' v p
theorem keep_other {w : World} {b c : Nat} {v : Array Value} {o : Obj} (h : w.heap[c]? = some o) (hne : c ≠ b) : (w.setRow b v).heap[c]? = some o := (setRow_other w b c v hne).trans h
theorem mk_star {w : World} {v : Value} {p : Pat} (hk : KidsAt w v [p]) (hT : TabZ32 w) : Calls Tryd.prog 10 #[.agg #[.int .i64 20, .string ⟨#[]⟩, .int .i64 0, .string ⟨#[]⟩, v]] w (MakeEnd w (starOf p)) := by
  have h := make_mk (pat_of_kids (k := 20) hk (by decide)) hT
  unfold MakeEnd starOf
  exact h
theorem mk_alt {w : World} {v : Value} {p q : Pat} (hk : KidsAt w v [p, q]) (hT : TabZ32 w) : Calls Tryd.prog 10 #[.agg #[.int .i64 19, .string ⟨#[]⟩, .int .i64 0, .string ⟨#[]⟩, v]] w (MakeEnd w (altOf p q)) := by
  have h := make_mk (pat_of_kids (k := 19) hk (by decide)) hT
  unfold MakeEnd altOf
  exact h
theorem MkN.over {N : Nat} {w : World} {v : Array Value} {p : Pat} (h : MkN N w v p) {b : Nat} (hb : b < N) (cs : Array Value) : MkN N (w.setRow b cs) v p := fun w'' hs hk =>
  h w'' (by simpa [World.setRow] using hs) fun k h1 h2 => (hk k h1 (by simpa [World.setRow] using h2)).trans (setRow_other _ _ _ _ (by omega))
theorem MkN.grow {N : Nat} {w w' : World} {v : Array Value} {p : Pat} (h : MkN N w v p) (g : Grew w w') : MkN N w' v p := fun w'' hs hk =>
  h w'' (Nat.le_trans g.size hs) fun k h1 h2 => by
    rw [hk k h1 (Nat.lt_of_lt_of_le h2 g.size), Array.getElem?_eq_getElem h2]
    exact heap_kept g (Array.getElem?_eq_getElem h2)
theorem simp_at {p : Pat} {w : World} {e : Ending} {w' : World} (h : SimplifyEnd p w e w') (h0 : patErr p = 0) : ∃ a n c, e = .returned (.tuple #[.agg #[.int .i64 (simple p).kind, .string (simple p).text, .int .i64 (simple p).n, .string (simple p).name, .slice a n c], .int .i64 0]) ∧ PatV w' (.slice a n c) (simple p) ∧ Grew w w' := by
  rcases h with ⟨_, a, n, c, he, hp, hg⟩ | ⟨h1, _⟩
  · exact ⟨a, n, c, he, hp.patV, hg⟩
  · exact absurd h0 h1
set_option maxHeartbeats 8000000 in
theorem AutoSame_walk (p q : Pat) (kv kw : Value) (w : World) (hp : PatV w kv p) (hq : PatV w kw q) (hT : TabZ32 w) (hZ : TabZ w) :
    Calls Tryd.prog 7 #[.agg (p.cells kv), .agg (q.cells kw)] w fun e w' => e = .returned (.bool true) ∧ Grew w w' := by
  have hz := zero_aut
  have HP := hidd hp
  have HQ := hidd hq
  have HT := hidd hT
  have HTZ := hidd hZ
  have HAl : Hid (∀ w1, Grew w w1 → Calls Tryd.prog 13 #[] w1 fun e w' => e = .returned (.bool true) ∧ Grew w1 w') := fun w1 g => Alive_any w1 (hT.kept g)
  have hb1 := heap_kept ((Grew.refl _).alloc (.cells (q.cells kw) 24)) (heap_alloc_new w (.cells (p.cells kv) 24))
  have hb2 := heap_alloc2_new w (.cells (p.cells kv) 24) (.cells (q.cells kw) 24)
  have hg := ((Grew.refl w).alloc (.cells (p.cells kv) 24)).alloc (.cells (q.cells kw) 24)
  obtain ⟨W0, hW0⟩ : ∃ W, (w.alloc (.cells (p.cells kv) 24)).alloc (.cells (q.cells kw) 24) = W := ⟨_, rfl⟩
  rw [hW0] at hb1 hb2 hg
  obtain ⟨pb, hpb⟩ : ∃ pb, w.heap.size = pb := ⟨_, rfl⟩
  rw [hpb] at hb1 hb2
  have HB := hidd (And.intro hb1 (And.intro hb2 hg))
  have HFp : Hid (∀ w1, Grew W0 w1 → Calls Tryd.prog 10 #[.agg #[.int .i64 p.kind, .string p.text, .int .i64 p.n, .string p.name, kv]] w1 (MakeEnd w1 p)) := fun w1 g => make_mk (hp.kept (hg.trans g)) (hT.kept (hg.trans g))
  have HSi : Hid (∀ w1, Grew W0 w1 → Calls Tryd.prog 22 #[.agg #[.int .i64 p.kind, .string p.text, .int .i64 p.n, .string p.name, kv]] w1 (SimplifyEnd p w1)) := fun w1 g => Simplify_any p kv w1 (hp.kept (hg.trans g)) (hZ.kept (hg.trans g))
  clear hb1 hb2 hg hp hq hT hZ
  unfold Pat.cells at hW0 ⊢
  go_enter Tryd.func7, Tryd.ntmps7
  go_wp2_with (rw [hW0])
  refine (HAl.out _ HB.out.2.2).mono ?_; rintro e w1 ⟨rfl, g1⟩
  have HG1 := hidd g1
  have a0 : w1.cell? ⟨pb, 0, none⟩ = some (.int .i64 p.kind) := cell_of (heap_kept g1 HB.out.1) 0
  have a1 : w1.cell? ⟨pb, 1, none⟩ = some (.string p.text) := cell_of (heap_kept g1 HB.out.1) 1
  have a2 : w1.cell? ⟨pb, 2, none⟩ = some (.int .i64 p.n) := cell_of (heap_kept g1 HB.out.1) 2
  have a3 : w1.cell? ⟨pb, 3, none⟩ = some (.string p.name) := cell_of (heap_kept g1 HB.out.1) 3
  have a4 : w1.cell? ⟨pb, 4, none⟩ = some (kv) := cell_of (heap_kept g1 HB.out.1) 4
  clear g1 hW0 HAl
  go_wp2_with fail
  refine (HFp.out _ HG1.out).mono ?_; rintro e w2 ⟨v5, rfl, g2, z1, z2, m5⟩
  obtain ⟨b5, hb5⟩ : ∃ b, w2.heap.size = b := ⟨_, rfl⟩
  have HZ5 : Hid ((w2.alloc (.cells zAut 30)).heap[b5]? = some (.cells zAut 30 (0, 0))) := by rw [← hb5]; exact heap_alloc_new w2 _
  obtain ⟨W2, hW5⟩ : ∃ W, (w2.alloc (.cells zAut 30)).setRow b5 v5 = W := ⟨_, rfl⟩
  have gw5 : Grew w2 W2 := by rw [← hW5]; exact setRow_grew ((Grew.refl w2).alloc _) (by omega) v5
  have hh5 := setRow_heap _ b5 _ v5 _ _ HZ5.out
  rw [hW5] at hh5
  have HS5 := hidd (And.intro z1 z2)
  have HM5 := hidd (And.intro hh5 (m5.at.kept gw5))
  have HG2 := hidd (HG1.out.trans (g2.trans gw5))
  have HN5 : Hid (W0.heap.size ≤ b5) := by rw [← hb5]; exact (HG1.out.trans g2).size
  have d0 : W2.cell? ⟨pb, 0, none⟩ = some (.int .i64 p.kind) := cell_of (heap_kept HG2.out HB.out.1) 0
  have d1 : W2.cell? ⟨pb, 1, none⟩ = some (.string p.text) := cell_of (heap_kept HG2.out HB.out.1) 1
  have d2 : W2.cell? ⟨pb, 2, none⟩ = some (.int .i64 p.n) := cell_of (heap_kept HG2.out HB.out.1) 2
  have d3 : W2.cell? ⟨pb, 3, none⟩ = some (.string p.name) := cell_of (heap_kept HG2.out HB.out.1) 3
  have d4 : W2.cell? ⟨pb, 4, none⟩ = some (kv) := cell_of (heap_kept HG2.out HB.out.1) 4
  clear z1 z2 m5 g2 gw5 hh5 HG1 a0 a1 a2 a3 a4
  obtain ⟨ep, hep⟩ : ∃ ep, makeErr p = ep := ⟨_, rfl⟩
  have HEp := hidd hep
  rw [hep]
  clear hep
  go_upto_region 4 with (refine wpList_store_aut (b := b5) rfl rfl rfl rfl HZ5.out zAut_size HS5.out.1 HS5.out.2 ?_)
  try rw [hW5]
  clear hb5 hW5 HZ5
  by_cases hp0 : ep = 0
  rotate_left
  · have k1 : (ep != 0) = true := by simpa using hp0
    go_wp2_with fail
    go_ret
    exact ⟨rfl, HB.out.2.2.trans HG2.out⟩
  subst hp0
  go_wp2_with fail
  refine (HSi.out _ HG2.out).mono ?_; rintro e w3 h3
  obtain ⟨sa, sn, sc, rfl, hx, g3⟩ := simp_at h3 (makeErr_zero HEp.out).1
  have hE8 := makeErr_simple HEp.out
  have HL8 := hidd (fun l => autL_simple HEp.out l)
  obtain ⟨X, hX⟩ : ∃ X, simple p = X := ⟨_, rfl⟩
  rw [hX] at hx hE8 HL8 ⊢
  obtain ⟨b7, hb7⟩ : ∃ b, w3.heap.size = b := ⟨_, rfl⟩
  have gw := (Grew.refl w3).alloc (.cells #[.int .i64 X.kind, .string X.text, .int .i64 X.n, .string X.name, .slice sa sn sc] 24)
  have hh := heap_alloc_new w3 (.cells #[.int .i64 X.kind, .string X.text, .int .i64 X.n, .string X.name, .slice sa sn sc] 24)
  obtain ⟨W3, hW3⟩ : ∃ W, w3.alloc (.cells #[.int .i64 X.kind, .string X.text, .int .i64 X.n, .string X.name, .slice sa sn sc] 24) = W := ⟨_, rfl⟩
  rw [hW3] at gw hh
  rw [hb7] at hh
  have HG3 := hidd (HG2.out.trans (g3.trans gw))
  have HM53 := hidd (And.intro (heap_kept (g3.trans gw) HM5.out.1) (HM5.out.2.kept (g3.trans gw)))
  have HMk : Hid (Calls Tryd.prog 10 #[.agg #[.int .i64 X.kind, .string X.text, .int .i64 X.n, .string X.name, .slice sa sn sc]] W3 (MakeEnd W3 X)) := make_mk (hx.kept gw) (HT.out.kept (HB.out.2.2.trans HG3.out))
  have x0 : W3.cell? ⟨b7, 0, none⟩ = some (.int .i64 X.kind) := cell_of hh 0
  have x1 : W3.cell? ⟨b7, 1, none⟩ = some (.string X.text) := cell_of hh 1
  have x2 : W3.cell? ⟨b7, 2, none⟩ = some (.int .i64 X.n) := cell_of hh 2
  have x3 : W3.cell? ⟨b7, 3, none⟩ = some (.string X.name) := cell_of hh 3
  have x4 : W3.cell? ⟨b7, 4, none⟩ = some (.slice sa sn sc) := cell_of hh 4
  clear h3 hX hx gw hh g3 d0 d1 d2 d3 d4 HM5 HG2 HSi
  go_upto_region 7 with fail
  try rw [hW3]
  clear hb7 hW3
  go_wp2_with fail
  refine HMk.out.mono ?_; rintro e w4 ⟨v8, rfl, g4, z1, z2, m8⟩
  rw [hE8]
  obtain ⟨b8, hb8⟩ : ∃ b, w4.heap.size = b := ⟨_, rfl⟩
  have HZ8 : Hid ((w4.alloc (.cells zAut 30)).heap[b8]? = some (.cells zAut 30 (0, 0))) := by rw [← hb8]; exact heap_alloc_new w4 _
  obtain ⟨W4, hW8⟩ : ∃ W, (w4.alloc (.cells zAut 30)).setRow b8 v8 = W := ⟨_, rfl⟩
  have gw8 : Grew w4 W4 := by rw [← hW8]; exact setRow_grew ((Grew.refl w4).alloc _) (by omega) v8
  have hh8 := setRow_heap _ b8 _ v8 _ _ HZ8.out
  rw [hW8] at hh8
  have HS8 := hidd (And.intro z1 z2)
  have HM8 := hidd (And.intro hh8 (m8.at.kept gw8))
  have HG4 := hidd (HG3.out.trans (g4.trans gw8))
  have HN8 : Hid (W0.heap.size ≤ b8) := by rw [← hb8]; exact (HG3.out.trans g4).size
  have HM54 := hidd (And.intro (heap_kept (g4.trans gw8) HM53.out.1) (HM53.out.2.kept (g4.trans gw8)))
  have HSm : Hid (Calls Tryd.prog 12 #[.agg v5, .agg v8] W4 fun e w' => e = .returned (.bool true) ∧ Grew W4 w') := mk_same HM54.out.2 HM8.out.2 (HEp.out.trans hE8.symm) fun _ => HL8.out
  clear z1 z2 m8 g4 gw8 hh8 HG3 HM53 HMk x0 x1 x2 x3 x4 hE8 HL8
  go_upto_region 10 with (refine wpList_store_aut (b := b8) rfl rfl rfl rfl HZ8.out zAut_size HS8.out.1 HS8.out.2 ?_)
  try rw [hW8]
  clear hb8 hW8 HZ8
  go_wp2_with fail
  refine oper_load_autH (b := b5) rfl rfl HM54.out.1 HS5.out.1 ?_
  go_wp2_with fail
  refine oper_load_autH (b := b8) rfl rfl HM8.out.1 HS8.out.1 ?_
  go_wp2_with fail
  refine HSm.out.mono ?_; rintro e w5 ⟨rfl, g5⟩
  have HG5 := hidd (HG4.out.trans g5)
  have HR8 := hidd (heap_kept g5 HM8.out.1)
  have a0 : w5.cell? ⟨pb, 0, none⟩ = some (.int .i64 p.kind) := cell_of (heap_kept HG5.out HB.out.1) 0
  have a1 : w5.cell? ⟨pb, 1, none⟩ = some (.string p.text) := cell_of (heap_kept HG5.out HB.out.1) 1
  have a2 : w5.cell? ⟨pb, 2, none⟩ = some (.int .i64 p.n) := cell_of (heap_kept HG5.out HB.out.1) 2
  have a3 : w5.cell? ⟨pb, 3, none⟩ = some (.string p.name) := cell_of (heap_kept HG5.out HB.out.1) 3
  have a4 : w5.cell? ⟨pb, 4, none⟩ = some (kv) := cell_of (heap_kept HG5.out HB.out.1) 4
  clear HSm HM54 HM8 HG4 HS5 HN5
  -- the star
  obtain ⟨sb, hsb⟩ : ∃ b, w5.heap.size = b := ⟨_, rfl⟩
  have g6 : Grew w5 (w5.alloc (.cells #[.int .i64 p.kind, .string p.text, .int .i64 p.n, .string p.name, kv] 24)) := (Grew.refl w5).alloc _
  have h6 := heap_alloc_new w5 (.cells #[.int .i64 p.kind, .string p.text, .int .i64 p.n, .string p.name, kv] 24)
  rw [hsb] at h6
  obtain ⟨W5, hW5⟩ : ∃ W, w5.alloc (.cells #[.int .i64 p.kind, .string p.text, .int .i64 p.n, .string p.name, kv] 24) = W := ⟨_, rfl⟩
  rw [hW5] at g6 h6
  obtain ⟨b9, hb9⟩ : ∃ b, W5.heap.size = b := ⟨_, rfl⟩
  have g7 : Grew W5 (W5.alloc (.cells #[.int .i64 20, .string ⟨#[]⟩, .int .i64 0, .string ⟨#[]⟩, .slice (some ⟨sb, 0, none⟩) 1 1] 24)) := (Grew.refl W5).alloc _
  have h9 := heap_alloc_new W5 (.cells #[.int .i64 20, .string ⟨#[]⟩, .int .i64 0, .string ⟨#[]⟩, .slice (some ⟨sb, 0, none⟩) 1 1] 24)
  rw [hb9] at h9
  obtain ⟨W6, hW6⟩ : ∃ W, W5.alloc (.cells #[.int .i64 20, .string ⟨#[]⟩, .int .i64 0, .string ⟨#[]⟩, .slice (some ⟨sb, 0, none⟩) 1 1] 24) = W := ⟨_, rfl⟩
  rw [hW6] at g7 h9
  have HG6 := hidd (HG5.out.trans (g6.trans g7))
  have HR86 := hidd (heap_kept (g6.trans g7) HR8.out)
  have HRs := hidd (heap_kept g7 h6)
  have HR9 := hidd h9
  have HLt : Hid (b8 < sb ∧ b8 < b9) := by
    have h1 := (Array.getElem?_eq_some_iff.1 HR8.out).1
    have h2 := g6.size
    exact ⟨by omega, by omega⟩
  have HMs : Hid (Calls Tryd.prog 10 #[.agg #[.int .i64 20, .string ⟨#[]⟩, .int .i64 0, .string ⟨#[]⟩, .slice (some ⟨sb, 0, none⟩) 1 1]] W6 (MakeEnd W6 (starOf p))) := mk_star (kids_at1 HRs.out (HP.out.kept (HB.out.2.2.trans HG6.out))) (HT.out.kept (HB.out.2.2.trans HG6.out))
  clear g5 g6 g7 h6 h9 HG5 HR8
  go_upto_region 13 with (first | (refine wpList_build_p1 rfl rfl rfl ?_))
  try rw [hsb]
  try rw [hW5]
  try rw [hb9]
  try rw [hW6]
  clear hsb hW5 hb9 hW6
  have x0 : W6.cell? ⟨b9, 0, none⟩ = some (.int .i64 20) := cell_of HR9.out 0
  have x1 : W6.cell? ⟨b9, 1, none⟩ = some (.string ⟨#[]⟩) := cell_of HR9.out 1
  have x2 : W6.cell? ⟨b9, 2, none⟩ = some (.int .i64 0) := cell_of HR9.out 2
  have x3 : W6.cell? ⟨b9, 3, none⟩ = some (.string ⟨#[]⟩) := cell_of HR9.out 3
  have x4 : W6.cell? ⟨b9, 4, none⟩ = some (.slice (some ⟨sb, 0, none⟩) 1 1) := cell_of HR9.out 4
  clear a0 a1 a2 a3 a4
  go_wp2_with fail
  refine HMs.out.mono ?_; rintro e w7 ⟨v9, rfl, g7, z1, z2, m9⟩
  have h8 := heap_kept g7 HR86.out
  obtain ⟨W7, hW7⟩ : ∃ W, w7.setRow b8 v9 = W := ⟨_, rfl⟩
  have gw7 : Grew W0 W7 := by rw [← hW7]; exact setRow_grew (HG6.out.trans g7) HN8.out v9
  have hh8 := setRow_heap _ b8 _ v9 _ _ h8
  rw [hW7] at hh8
  have hl6 : b8 < W6.heap.size := (Array.getElem?_eq_some_iff.1 HR86.out).1
  have hmn := m9.over hl6 v9
  rw [hW7] at hmn
  have HM9 := hidd (And.intro hh8 hmn.at)
  have hs7 := keep_other (v := v9) (heap_kept g7 HRs.out) (Nat.ne_of_gt HLt.out.1)
  have h97 := keep_other (v := v9) (heap_kept g7 HR9.out) (Nat.ne_of_gt HLt.out.2)
  rw [hW7] at hs7 h97
  have HRs7 := hidd hs7
  have HR97 := hidd h97
  have HG7 := hidd gw7
  have HS9 := hidd (And.intro z1 z2)
  have HO8 := hidd h8
  clear z1 z2 m9 h8 gw7 hh8 hmn hl6 g7 hs7 h97 HG6 HRs HR9 HR86 HMs x0 x1 x2 x3 x4
  obtain ⟨es, hes⟩ : ∃ es, makeErr (starOf p) = es := ⟨_, rfl⟩
  have HEs := hidd hes
  rw [hes]
  clear hes
  go_upto_region 14 with (refine wpList_store_aut (b := b8) rfl rfl rfl rfl HO8.out HS8.out.1 HS9.out.1 HS9.out.2 ?_)
  try rw [hW7]
  clear hW7 HO8
  have x0 : W7.cell? ⟨b9, 0, none⟩ = some (.int .i64 20) := cell_of HR97.out 0
  have x1 : W7.cell? ⟨b9, 1, none⟩ = some (.string ⟨#[]⟩) := cell_of HR97.out 1
  have x2 : W7.cell? ⟨b9, 2, none⟩ = some (.int .i64 0) := cell_of HR97.out 2
  have x3 : W7.cell? ⟨b9, 3, none⟩ = some (.string ⟨#[]⟩) := cell_of HR97.out 3
  have x4 : W7.cell? ⟨b9, 4, none⟩ = some (.slice (some ⟨sb, 0, none⟩) 1 1) := cell_of HR97.out 4
  -- the star of the star
  obtain ⟨tb, htb⟩ : ∃ b, W7.heap.size = b := ⟨_, rfl⟩
  have g8 : Grew W7 (W7.alloc (.cells #[.int .i64 20, .string ⟨#[]⟩, .int .i64 0, .string ⟨#[]⟩, .slice (some ⟨sb, 0, none⟩) 1 1] 24)) := (Grew.refl W7).alloc _
  have h8 := heap_alloc_new W7 (.cells #[.int .i64 20, .string ⟨#[]⟩, .int .i64 0, .string ⟨#[]⟩, .slice (some ⟨sb, 0, none⟩) 1 1] 24)
  rw [htb] at h8
  obtain ⟨W8, hW8⟩ : ∃ W, W7.alloc (.cells #[.int .i64 20, .string ⟨#[]⟩, .int .i64 0, .string ⟨#[]⟩, .slice (some ⟨sb, 0, none⟩) 1 1] 24) = W := ⟨_, rfl⟩
  rw [hW8] at g8 h8
  have HG8 := hidd (HG7.out.trans g8)
  have HM98 := hidd (And.intro (heap_kept g8 HM9.out.1) (HM9.out.2.kept g8))
  have hpv : PatV W8 (.slice (some ⟨sb, 0, none⟩) 1 1) (starOf p) := pat_of_kids (k := 20) (kids_at1 (heap_kept g8 HRs7.out) (HP.out.kept (HB.out.2.2.trans HG8.out))) (by decide)
  have HMs : Hid (Calls Tryd.prog 10 #[.agg #[.int .i64 20, .string ⟨#[]⟩, .int .i64 0, .string ⟨#[]⟩, .slice (some ⟨tb, 0, none⟩) 1 1]] W8 (MakeEnd W8 (starOf (starOf p)))) := mk_star (kids_at1 (p := starOf p) h8 hpv) (HT.out.kept (HB.out.2.2.trans HG8.out))
  clear g8 h8 hpv HG7 HM9 HRs7 HR97
  go_wp2_with (first | (refine wpList_build_p1 rfl rfl rfl ?_))
  try rw [htb]
  try rw [hW8]
  try clear htb hW8
  refine HMs.out.mono ?_; rintro e w9 ⟨v10, rfl, g9, z1, z2, m10⟩
  obtain ⟨b10, hb10⟩ : ∃ b, w9.heap.size = b := ⟨_, rfl⟩
  have HZ10 : Hid ((w9.alloc (.cells zAut 30)).heap[b10]? = some (.cells zAut 30 (0, 0))) := by rw [← hb10]; exact heap_alloc_new w9 _
  obtain ⟨W9, hW10⟩ : ∃ W, (w9.alloc (.cells zAut 30)).setRow b10 v10 = W := ⟨_, rfl⟩
  have gw10 : Grew w9 W9 := by rw [← hW10]; exact setRow_grew ((Grew.refl w9).alloc _) (by omega) v10
  have hh10 := setRow_heap _ b10 _ v10 _ _ HZ10.out
  rw [hW10] at hh10
  have HS10 := hidd (And.intro z1 z2)
  have HM10 := hidd (And.intro hh10 (m10.at.kept gw10))
  have HG9 := hidd (HG8.out.trans (g9.trans gw10))
  have HN10 : Hid (W0.heap.size ≤ b10) := by rw [← hb10]; exact (HG8.out.trans g9).size
  have HM99 := hidd (And.intro (heap_kept (g9.trans gw10) HM98.out.1) (HM98.out.2.kept (g9.trans gw10)))
  have HNe : Hid (b8 ≠ b10) := by
    have h1 := (Array.getElem?_eq_some_iff.1 (heap_kept g9 HM98.out.1)).1
    show b8 ≠ b10
    omega
  clear z1 z2 m10 g9 gw10 hh10 HG8 HM98 HMs x0 x1 x2 x3 x4
  obtain ⟨et, het⟩ : ∃ et, makeErr (starOf (starOf p)) = et := ⟨_, rfl⟩
  have HEt := hidd het
  rw [het]
  clear het
  go_upto_region 15 with (refine wpList_store_aut (b := b10) rfl rfl rfl rfl HZ10.out zAut_size HS10.out.1 HS10.out.2 ?_)
  try rw [hW10]
  clear hb10 hW10 HZ10
  by_cases h1 : es = 0
  rotate_left
  · have k1 : (es == 0) = false := by simpa using h1
    have HGT := HG9
    have HR8 := hidd HM99.out.1
    have HR10 := hidd HM10.out.1
    clear HM99 HM10 HG9
    have a0 : W9.cell? ⟨pb, 0, none⟩ = some (.int .i64 p.kind) := cell_of (heap_kept HGT.out HB.out.1) 0
    have a1 : W9.cell? ⟨pb, 1, none⟩ = some (.string p.text) := cell_of (heap_kept HGT.out HB.out.1) 1
    have a2 : W9.cell? ⟨pb, 2, none⟩ = some (.int .i64 p.n) := cell_of (heap_kept HGT.out HB.out.1) 2
    have a3 : W9.cell? ⟨pb, 3, none⟩ = some (.string p.name) := cell_of (heap_kept HGT.out HB.out.1) 3
    have a4 : W9.cell? ⟨pb, 4, none⟩ = some (kv) := cell_of (heap_kept HGT.out HB.out.1) 4
    have d0 : W9.cell? ⟨pb + 1, 0, none⟩ = some (.int .i64 q.kind) := cell_of (heap_kept HGT.out HB.out.2.1) 0
    have d1 : W9.cell? ⟨pb + 1, 1, none⟩ = some (.string q.text) := cell_of (heap_kept HGT.out HB.out.2.1) 1
    have d2 : W9.cell? ⟨pb + 1, 2, none⟩ = some (.int .i64 q.n) := cell_of (heap_kept HGT.out HB.out.2.1) 2
    have d3 : W9.cell? ⟨pb + 1, 3, none⟩ = some (.string q.name) := cell_of (heap_kept HGT.out HB.out.2.1) 3
    have d4 : W9.cell? ⟨pb + 1, 4, none⟩ = some (kw) := cell_of (heap_kept HGT.out HB.out.2.1) 4
    have hk := kids_two (HP.out.kept (HB.out.2.2.trans HGT.out)) (HQ.out.kept (HB.out.2.2.trans HGT.out))
    obtain ⟨ub, hub⟩ : ∃ b, W9.heap.size = b := ⟨_, rfl⟩
    have gu : Grew W9 (W9.alloc (.cells #[.int .i64 p.kind, .string p.text, .int .i64 p.n, .string p.name, kv, .int .i64 q.kind, .string q.text, .int .i64 q.n, .string q.name, kw] 24)) := (Grew.refl W9).alloc _
    obtain ⟨U, hU⟩ : ∃ W, W9.alloc (.cells #[.int .i64 p.kind, .string p.text, .int .i64 p.n, .string p.name, kv, .int .i64 q.kind, .string q.text, .int .i64 q.n, .string q.name, kw] 24) = W := ⟨_, rfl⟩
    rw [hU] at hk gu
    rw [hub] at hk
    have HGU := hidd (HGT.out.trans gu)
    have HU8 := hidd (heap_kept gu HR8.out)
    have HU10 := hidd (heap_kept gu HR10.out)
    have HMa : Hid (Calls Tryd.prog 10 #[.agg #[.int .i64 19, .string ⟨#[]⟩, .int .i64 0, .string ⟨#[]⟩, .slice (some ⟨ub, 0, none⟩) 2 2]] U (MakeEnd U (altOf p q))) := mk_alt hk (HT.out.kept (HB.out.2.2.trans HGU.out))
    clear hk gu HGT HR8 HR10
    go_wp2_with (first | (refine wpList_build_p2 rfl rfl rfl rfl ?_))
    try rw [hub]
    try rw [hU]
    try clear hub hU
    refine HMa.out.mono ?_; rintro e w11 ⟨v11, rfl, g11, z1, z2, m11⟩
    have h8 := heap_kept g11 HU8.out
    have h10 := heap_kept g11 HU10.out
    obtain ⟨W11, hW11⟩ : ∃ W, w11.setRow b8 v11 = W := ⟨_, rfl⟩
    have gw : Grew W0 W11 := by rw [← hW11]; exact setRow_grew (HGU.out.trans g11) HN8.out v11
    have hh8 := setRow_heap _ b8 _ v11 _ _ h8
    have hm := m11.over ((Array.getElem?_eq_some_iff.1 HU8.out).1) v11
    have hh10 := keep_other (v := v11) h10 HNe.out.symm
    rw [hW11] at hh8 hm hh10
    have HGV := hidd gw
    have HV8 := hidd hh8
    have HV10 := hidd hh10
    have HMm := hidd (And.intro hm (Array.getElem?_eq_some_iff.1 HU10.out).1)
    have HS11 := hidd (And.intro z1 z2)
    have HO8 := hidd h8
    clear z1 z2 m11 h8 h10 gw hh8 hm hh10 g11 HGU HU8 HU10 HMa a0 a1 a2 a3 a4 d0 d1 d2 d3 d4
    obtain ⟨ea, hea⟩ : ∃ ea, makeErr (altOf p q) = ea := ⟨_, rfl⟩
    have HEa := hidd hea
    rw [hea]
    clear hea
    go_upto_region 18 with (refine wpList_store_aut (b := b8) rfl rfl rfl rfl HO8.out HS9.out.1 HS11.out.1 HS11.out.2 ?_)
    try rw [hW11]
    clear hW11 HO8
    have a0 : W11.cell? ⟨pb, 0, none⟩ = some (.int .i64 p.kind) := cell_of (heap_kept HGV.out HB.out.1) 0
    have a1 : W11.cell? ⟨pb, 1, none⟩ = some (.string p.text) := cell_of (heap_kept HGV.out HB.out.1) 1
    have a2 : W11.cell? ⟨pb, 2, none⟩ = some (.int .i64 p.n) := cell_of (heap_kept HGV.out HB.out.1) 2
    have a3 : W11.cell? ⟨pb, 3, none⟩ = some (.string p.name) := cell_of (heap_kept HGV.out HB.out.1) 3
    have a4 : W11.cell? ⟨pb, 4, none⟩ = some (kv) := cell_of (heap_kept HGV.out HB.out.1) 4
    have d0 : W11.cell? ⟨pb + 1, 0, none⟩ = some (.int .i64 q.kind) := cell_of (heap_kept HGV.out HB.out.2.1) 0
    have d1 : W11.cell? ⟨pb + 1, 1, none⟩ = some (.string q.text) := cell_of (heap_kept HGV.out HB.out.2.1) 1
    have d2 : W11.cell? ⟨pb + 1, 2, none⟩ = some (.int .i64 q.n) := cell_of (heap_kept HGV.out HB.out.2.1) 2
    have d3 : W11.cell? ⟨pb + 1, 3, none⟩ = some (.string q.name) := cell_of (heap_kept HGV.out HB.out.2.1) 3
    have d4 : W11.cell? ⟨pb + 1, 4, none⟩ = some (kw) := cell_of (heap_kept HGV.out HB.out.2.1) 4
    have hk := kids_two (HQ.out.kept (HB.out.2.2.trans HGV.out)) (HP.out.kept (HB.out.2.2.trans HGV.out))
    obtain ⟨yb, hyb⟩ : ∃ b, W11.heap.size = b := ⟨_, rfl⟩
    have gu : Grew W11 (W11.alloc (.cells #[.int .i64 q.kind, .string q.text, .int .i64 q.n, .string q.name, kw, .int .i64 p.kind, .string p.text, .int .i64 p.n, .string p.name, kv] 24)) := (Grew.refl W11).alloc _
    obtain ⟨Y, hY⟩ : ∃ W, W11.alloc (.cells #[.int .i64 q.kind, .string q.text, .int .i64 q.n, .string q.name, kw, .int .i64 p.kind, .string p.text, .int .i64 p.n, .string p.name, kv] 24) = W := ⟨_, rfl⟩
    rw [hY] at hk gu
    rw [hyb] at hk
    have HGY := hidd (HGV.out.trans gu)
    have HY8 := hidd (heap_kept gu HV8.out)
    have HY10 := hidd (heap_kept gu HV10.out)
    have HMy := hidd (And.intro (HMm.out.1.grow gu) HMm.out.2)
    have HMa : Hid (Calls Tryd.prog 10 #[.agg #[.int .i64 19, .string ⟨#[]⟩, .int .i64 0, .string ⟨#[]⟩, .slice (some ⟨yb, 0, none⟩) 2 2]] Y (MakeEnd Y (altOf q p))) := mk_alt hk (HT.out.kept (HB.out.2.2.trans HGY.out))
    clear hk gu HGV HV8 HV10 HMm
    go_wp2_with (first | (refine wpList_build_p2 rfl rfl rfl rfl ?_))
    try rw [hyb]
    try rw [hY]
    try clear hyb hY
    refine HMa.out.mono ?_; rintro e w13 ⟨v13, rfl, g13, z1, z2, m13⟩
    have h8 := heap_kept g13 HY8.out
    have h10 := heap_kept g13 HY10.out
    obtain ⟨W13, hW13⟩ : ∃ W, w13.setRow b10 v13 = W := ⟨_, rfl⟩
    have gw : Grew W0 W13 := by rw [← hW13]; exact setRow_grew (HGY.out.trans g13) HN10.out v13
    have hh10 := setRow_heap _ b10 _ v13 _ _ h10
    have hm := m13.over ((Array.getElem?_eq_some_iff.1 HY10.out).1) v13
    have hm2 := (HMy.out.1.grow g13).over HMy.out.2 v13
    have hh8 := keep_other (v := v13) h8 HNe.out
    rw [hW13] at hh10 hm hm2 hh8
    have HGV := hidd gw
    have HV8 := hidd hh8
    have HV10 := hidd hh10
    have HSz : Hid (Calls Tryd.prog 12 #[.agg v11, .agg v13] W13 fun e w' => e = .returned (.bool true) ∧ Grew W13 w') := mk_same hm2.at hm.at (makeErr_swap HEp.out) fun h => autL_swap h ((makeErr_swap HEp.out).symm.trans h)
    have HS13 := hidd (And.intro z1 z2)
    have HO10 := hidd h10
    clear z1 z2 m13 h8 h10 gw hh8 hm hm2 hh10 g13 HGY HY8 HY10 HMy HMa a0 a1 a2 a3 a4 d0 d1 d2 d3 d4
    rw [← makeErr_swap HEp.out, HEa.out]
    go_upto_region 19 with (refine wpList_store_aut (b := b10) rfl rfl rfl rfl HO10.out HS10.out.1 HS13.out.1 HS13.out.2 ?_)
    try rw [hW13]
    clear hW13 HO10
    go_wp2_with fail
    refine oper_load_autH (b := b8) rfl rfl HV8.out HS11.out.1 ?_
    go_wp2_with fail
    refine oper_load_autH (b := b10) rfl rfl HV10.out HS13.out.1 ?_
    go_wp2_with fail
    refine HSz.out.mono ?_; rintro e w14 ⟨rfl, g14⟩
    have HGZ := hidd (HGV.out.trans g14)
    clear g14
    go_wp2_with fail
    go_ret
    exact ⟨rfl, HB.out.2.2.trans HGZ.out⟩
  by_cases h2 : et = 0
  rotate_left
  · have k2 : (et == 0) = false := by simpa using h2
    subst h1
    have HGT := HG9
    have HR8 := hidd HM99.out.1
    have HR10 := hidd HM10.out.1
    clear HM99 HM10 HG9
    have a0 : W9.cell? ⟨pb, 0, none⟩ = some (.int .i64 p.kind) := cell_of (heap_kept HGT.out HB.out.1) 0
    have a1 : W9.cell? ⟨pb, 1, none⟩ = some (.string p.text) := cell_of (heap_kept HGT.out HB.out.1) 1
    have a2 : W9.cell? ⟨pb, 2, none⟩ = some (.int .i64 p.n) := cell_of (heap_kept HGT.out HB.out.1) 2
    have a3 : W9.cell? ⟨pb, 3, none⟩ = some (.string p.name) := cell_of (heap_kept HGT.out HB.out.1) 3
    have a4 : W9.cell? ⟨pb, 4, none⟩ = some (kv) := cell_of (heap_kept HGT.out HB.out.1) 4
    have d0 : W9.cell? ⟨pb + 1, 0, none⟩ = some (.int .i64 q.kind) := cell_of (heap_kept HGT.out HB.out.2.1) 0
    have d1 : W9.cell? ⟨pb + 1, 1, none⟩ = some (.string q.text) := cell_of (heap_kept HGT.out HB.out.2.1) 1
    have d2 : W9.cell? ⟨pb + 1, 2, none⟩ = some (.int .i64 q.n) := cell_of (heap_kept HGT.out HB.out.2.1) 2
    have d3 : W9.cell? ⟨pb + 1, 3, none⟩ = some (.string q.name) := cell_of (heap_kept HGT.out HB.out.2.1) 3
    have d4 : W9.cell? ⟨pb + 1, 4, none⟩ = some (kw) := cell_of (heap_kept HGT.out HB.out.2.1) 4
    have hk := kids_two (HP.out.kept (HB.out.2.2.trans HGT.out)) (HQ.out.kept (HB.out.2.2.trans HGT.out))
    obtain ⟨ub, hub⟩ : ∃ b, W9.heap.size = b := ⟨_, rfl⟩
    have gu : Grew W9 (W9.alloc (.cells #[.int .i64 p.kind, .string p.text, .int .i64 p.n, .string p.name, kv, .int .i64 q.kind, .string q.text, .int .i64 q.n, .string q.name, kw] 24)) := (Grew.refl W9).alloc _
    obtain ⟨U, hU⟩ : ∃ W, W9.alloc (.cells #[.int .i64 p.kind, .string p.text, .int .i64 p.n, .string p.name, kv, .int .i64 q.kind, .string q.text, .int .i64 q.n, .string q.name, kw] 24) = W := ⟨_, rfl⟩
    rw [hU] at hk gu
    rw [hub] at hk
    have HGU := hidd (HGT.out.trans gu)
    have HU8 := hidd (heap_kept gu HR8.out)
    have HU10 := hidd (heap_kept gu HR10.out)
    have HMa : Hid (Calls Tryd.prog 10 #[.agg #[.int .i64 19, .string ⟨#[]⟩, .int .i64 0, .string ⟨#[]⟩, .slice (some ⟨ub, 0, none⟩) 2 2]] U (MakeEnd U (altOf p q))) := mk_alt hk (HT.out.kept (HB.out.2.2.trans HGU.out))
    clear hk gu HGT HR8 HR10
    go_wp2_with (first | (refine wpList_build_p2 rfl rfl rfl rfl ?_))
    try rw [hub]
    try rw [hU]
    try clear hub hU
    refine HMa.out.mono ?_; rintro e w11 ⟨v11, rfl, g11, z1, z2, m11⟩
    have h8 := heap_kept g11 HU8.out
    have h10 := heap_kept g11 HU10.out
    obtain ⟨W11, hW11⟩ : ∃ W, w11.setRow b8 v11 = W := ⟨_, rfl⟩
    have gw : Grew W0 W11 := by rw [← hW11]; exact setRow_grew (HGU.out.trans g11) HN8.out v11
    have hh8 := setRow_heap _ b8 _ v11 _ _ h8
    have hm := m11.over ((Array.getElem?_eq_some_iff.1 HU8.out).1) v11
    have hh10 := keep_other (v := v11) h10 HNe.out.symm
    rw [hW11] at hh8 hm hh10
    have HGV := hidd gw
    have HV8 := hidd hh8
    have HV10 := hidd hh10
    have HMm := hidd (And.intro hm (Array.getElem?_eq_some_iff.1 HU10.out).1)
    have HS11 := hidd (And.intro z1 z2)
    have HO8 := hidd h8
    clear z1 z2 m11 h8 h10 gw hh8 hm hh10 g11 HGU HU8 HU10 HMa a0 a1 a2 a3 a4 d0 d1 d2 d3 d4
    obtain ⟨ea, hea⟩ : ∃ ea, makeErr (altOf p q) = ea := ⟨_, rfl⟩
    have HEa := hidd hea
    rw [hea]
    clear hea
    go_upto_region 18 with (refine wpList_store_aut (b := b8) rfl rfl rfl rfl HO8.out HS9.out.1 HS11.out.1 HS11.out.2 ?_)
    try rw [hW11]
    clear hW11 HO8
    have a0 : W11.cell? ⟨pb, 0, none⟩ = some (.int .i64 p.kind) := cell_of (heap_kept HGV.out HB.out.1) 0
    have a1 : W11.cell? ⟨pb, 1, none⟩ = some (.string p.text) := cell_of (heap_kept HGV.out HB.out.1) 1
    have a2 : W11.cell? ⟨pb, 2, none⟩ = some (.int .i64 p.n) := cell_of (heap_kept HGV.out HB.out.1) 2
    have a3 : W11.cell? ⟨pb, 3, none⟩ = some (.string p.name) := cell_of (heap_kept HGV.out HB.out.1) 3
    have a4 : W11.cell? ⟨pb, 4, none⟩ = some (kv) := cell_of (heap_kept HGV.out HB.out.1) 4
    have d0 : W11.cell? ⟨pb + 1, 0, none⟩ = some (.int .i64 q.kind) := cell_of (heap_kept HGV.out HB.out.2.1) 0
    have d1 : W11.cell? ⟨pb + 1, 1, none⟩ = some (.string q.text) := cell_of (heap_kept HGV.out HB.out.2.1) 1
    have d2 : W11.cell? ⟨pb + 1, 2, none⟩ = some (.int .i64 q.n) := cell_of (heap_kept HGV.out HB.out.2.1) 2
    have d3 : W11.cell? ⟨pb + 1, 3, none⟩ = some (.string q.name) := cell_of (heap_kept HGV.out HB.out.2.1) 3
    have d4 : W11.cell? ⟨pb + 1, 4, none⟩ = some (kw) := cell_of (heap_kept HGV.out HB.out.2.1) 4
    have hk := kids_two (HQ.out.kept (HB.out.2.2.trans HGV.out)) (HP.out.kept (HB.out.2.2.trans HGV.out))
    obtain ⟨yb, hyb⟩ : ∃ b, W11.heap.size = b := ⟨_, rfl⟩
    have gu : Grew W11 (W11.alloc (.cells #[.int .i64 q.kind, .string q.text, .int .i64 q.n, .string q.name, kw, .int .i64 p.kind, .string p.text, .int .i64 p.n, .string p.name, kv] 24)) := (Grew.refl W11).alloc _
    obtain ⟨Y, hY⟩ : ∃ W, W11.alloc (.cells #[.int .i64 q.kind, .string q.text, .int .i64 q.n, .string q.name, kw, .int .i64 p.kind, .string p.text, .int .i64 p.n, .string p.name, kv] 24) = W := ⟨_, rfl⟩
    rw [hY] at hk gu
    rw [hyb] at hk
    have HGY := hidd (HGV.out.trans gu)
    have HY8 := hidd (heap_kept gu HV8.out)
    have HY10 := hidd (heap_kept gu HV10.out)
    have HMy := hidd (And.intro (HMm.out.1.grow gu) HMm.out.2)
    have HMa : Hid (Calls Tryd.prog 10 #[.agg #[.int .i64 19, .string ⟨#[]⟩, .int .i64 0, .string ⟨#[]⟩, .slice (some ⟨yb, 0, none⟩) 2 2]] Y (MakeEnd Y (altOf q p))) := mk_alt hk (HT.out.kept (HB.out.2.2.trans HGY.out))
    clear hk gu HGV HV8 HV10 HMm
    go_wp2_with (first | (refine wpList_build_p2 rfl rfl rfl rfl ?_))
    try rw [hyb]
    try rw [hY]
    try clear hyb hY
    refine HMa.out.mono ?_; rintro e w13 ⟨v13, rfl, g13, z1, z2, m13⟩
    have h8 := heap_kept g13 HY8.out
    have h10 := heap_kept g13 HY10.out
    obtain ⟨W13, hW13⟩ : ∃ W, w13.setRow b10 v13 = W := ⟨_, rfl⟩
    have gw : Grew W0 W13 := by rw [← hW13]; exact setRow_grew (HGY.out.trans g13) HN10.out v13
    have hh10 := setRow_heap _ b10 _ v13 _ _ h10
    have hm := m13.over ((Array.getElem?_eq_some_iff.1 HY10.out).1) v13
    have hm2 := (HMy.out.1.grow g13).over HMy.out.2 v13
    have hh8 := keep_other (v := v13) h8 HNe.out
    rw [hW13] at hh10 hm hm2 hh8
    have HGV := hidd gw
    have HV8 := hidd hh8
    have HV10 := hidd hh10
    have HSz : Hid (Calls Tryd.prog 12 #[.agg v11, .agg v13] W13 fun e w' => e = .returned (.bool true) ∧ Grew W13 w') := mk_same hm2.at hm.at (makeErr_swap HEp.out) fun h => autL_swap h ((makeErr_swap HEp.out).symm.trans h)
    have HS13 := hidd (And.intro z1 z2)
    have HO10 := hidd h10
    clear z1 z2 m13 h8 h10 gw hh8 hm hm2 hh10 g13 HGY HY8 HY10 HMy HMa a0 a1 a2 a3 a4 d0 d1 d2 d3 d4
    rw [← makeErr_swap HEp.out, HEa.out]
    go_upto_region 19 with (refine wpList_store_aut (b := b10) rfl rfl rfl rfl HO10.out HS10.out.1 HS13.out.1 HS13.out.2 ?_)
    try rw [hW13]
    clear hW13 HO10
    go_wp2_with fail
    refine oper_load_autH (b := b8) rfl rfl HV8.out HS11.out.1 ?_
    go_wp2_with fail
    refine oper_load_autH (b := b10) rfl rfl HV10.out HS13.out.1 ?_
    go_wp2_with fail
    refine HSz.out.mono ?_; rintro e w14 ⟨rfl, g14⟩
    have HGZ := hidd (HGV.out.trans g14)
    clear g14
    go_wp2_with fail
    go_ret
    exact ⟨rfl, HB.out.2.2.trans HGZ.out⟩
  subst h1
  subst h2
  have HSm : Hid (Calls Tryd.prog 12 #[.agg v9, .agg v10] W9 fun e w' => e = .returned (.bool true) ∧ Grew W9 w') := mk_same HM99.out.2 HM10.out.2 (HEs.out.trans HEt.out.symm) fun _ => autL_star2 HEs.out HEt.out
  go_wp2_with fail
  refine oper_load_autH (b := b8) rfl rfl HM99.out.1 HS9.out.1 ?_
  go_wp2_with fail
  refine oper_load_autH (b := b10) rfl rfl HM10.out.1 HS10.out.1 ?_
  go_wp2_with fail
  refine HSm.out.mono ?_; rintro e WT ⟨rfl, gt⟩
  have HGT := hidd (HG9.out.trans gt)
  have HR8 := hidd (heap_kept gt HM99.out.1)
  have HR10 := hidd (heap_kept gt HM10.out.1)
  clear gt HSm HM99 HM10 HG9
  have a0 : WT.cell? ⟨pb, 0, none⟩ = some (.int .i64 p.kind) := cell_of (heap_kept HGT.out HB.out.1) 0
  have a1 : WT.cell? ⟨pb, 1, none⟩ = some (.string p.text) := cell_of (heap_kept HGT.out HB.out.1) 1
  have a2 : WT.cell? ⟨pb, 2, none⟩ = some (.int .i64 p.n) := cell_of (heap_kept HGT.out HB.out.1) 2
  have a3 : WT.cell? ⟨pb, 3, none⟩ = some (.string p.name) := cell_of (heap_kept HGT.out HB.out.1) 3
  have a4 : WT.cell? ⟨pb, 4, none⟩ = some (kv) := cell_of (heap_kept HGT.out HB.out.1) 4
  have d0 : WT.cell? ⟨pb + 1, 0, none⟩ = some (.int .i64 q.kind) := cell_of (heap_kept HGT.out HB.out.2.1) 0
  have d1 : WT.cell? ⟨pb + 1, 1, none⟩ = some (.string q.text) := cell_of (heap_kept HGT.out HB.out.2.1) 1
  have d2 : WT.cell? ⟨pb + 1, 2, none⟩ = some (.int .i64 q.n) := cell_of (heap_kept HGT.out HB.out.2.1) 2
  have d3 : WT.cell? ⟨pb + 1, 3, none⟩ = some (.string q.name) := cell_of (heap_kept HGT.out HB.out.2.1) 3
  have d4 : WT.cell? ⟨pb + 1, 4, none⟩ = some (kw) := cell_of (heap_kept HGT.out HB.out.2.1) 4
  have hk := kids_two (HP.out.kept (HB.out.2.2.trans HGT.out)) (HQ.out.kept (HB.out.2.2.trans HGT.out))
  obtain ⟨ub, hub⟩ : ∃ b, WT.heap.size = b := ⟨_, rfl⟩
  have gu : Grew WT (WT.alloc (.cells #[.int .i64 p.kind, .string p.text, .int .i64 p.n, .string p.name, kv, .int .i64 q.kind, .string q.text, .int .i64 q.n, .string q.name, kw] 24)) := (Grew.refl WT).alloc _
  obtain ⟨U, hU⟩ : ∃ W, WT.alloc (.cells #[.int .i64 p.kind, .string p.text, .int .i64 p.n, .string p.name, kv, .int .i64 q.kind, .string q.text, .int .i64 q.n, .string q.name, kw] 24) = W := ⟨_, rfl⟩
  rw [hU] at hk gu
  rw [hub] at hk
  have HGU := hidd (HGT.out.trans gu)
  have HU8 := hidd (heap_kept gu HR8.out)
  have HU10 := hidd (heap_kept gu HR10.out)
  have HMa : Hid (Calls Tryd.prog 10 #[.agg #[.int .i64 19, .string ⟨#[]⟩, .int .i64 0, .string ⟨#[]⟩, .slice (some ⟨ub, 0, none⟩) 2 2]] U (MakeEnd U (altOf p q))) := mk_alt hk (HT.out.kept (HB.out.2.2.trans HGU.out))
  clear hk gu HGT HR8 HR10
  go_wp2_with (first | (refine wpList_build_p2 rfl rfl rfl rfl ?_))
  try rw [hub]
  try rw [hU]
  try clear hub hU
  refine HMa.out.mono ?_; rintro e w11 ⟨v11, rfl, g11, z1, z2, m11⟩
  have h8 := heap_kept g11 HU8.out
  have h10 := heap_kept g11 HU10.out
  obtain ⟨W11, hW11⟩ : ∃ W, w11.setRow b8 v11 = W := ⟨_, rfl⟩
  have gw : Grew W0 W11 := by rw [← hW11]; exact setRow_grew (HGU.out.trans g11) HN8.out v11
  have hh8 := setRow_heap _ b8 _ v11 _ _ h8
  have hm := m11.over ((Array.getElem?_eq_some_iff.1 HU8.out).1) v11
  have hh10 := keep_other (v := v11) h10 HNe.out.symm
  rw [hW11] at hh8 hm hh10
  have HGV := hidd gw
  have HV8 := hidd hh8
  have HV10 := hidd hh10
  have HMm := hidd (And.intro hm (Array.getElem?_eq_some_iff.1 HU10.out).1)
  have HS11 := hidd (And.intro z1 z2)
  have HO8 := hidd h8
  clear z1 z2 m11 h8 h10 gw hh8 hm hh10 g11 HGU HU8 HU10 HMa a0 a1 a2 a3 a4 d0 d1 d2 d3 d4
  obtain ⟨ea, hea⟩ : ∃ ea, makeErr (altOf p q) = ea := ⟨_, rfl⟩
  have HEa := hidd hea
  rw [hea]
  clear hea
  go_upto_region 18 with (refine wpList_store_aut (b := b8) rfl rfl rfl rfl HO8.out HS9.out.1 HS11.out.1 HS11.out.2 ?_)
  try rw [hW11]
  clear hW11 HO8
  have a0 : W11.cell? ⟨pb, 0, none⟩ = some (.int .i64 p.kind) := cell_of (heap_kept HGV.out HB.out.1) 0
  have a1 : W11.cell? ⟨pb, 1, none⟩ = some (.string p.text) := cell_of (heap_kept HGV.out HB.out.1) 1
  have a2 : W11.cell? ⟨pb, 2, none⟩ = some (.int .i64 p.n) := cell_of (heap_kept HGV.out HB.out.1) 2
  have a3 : W11.cell? ⟨pb, 3, none⟩ = some (.string p.name) := cell_of (heap_kept HGV.out HB.out.1) 3
  have a4 : W11.cell? ⟨pb, 4, none⟩ = some (kv) := cell_of (heap_kept HGV.out HB.out.1) 4
  have d0 : W11.cell? ⟨pb + 1, 0, none⟩ = some (.int .i64 q.kind) := cell_of (heap_kept HGV.out HB.out.2.1) 0
  have d1 : W11.cell? ⟨pb + 1, 1, none⟩ = some (.string q.text) := cell_of (heap_kept HGV.out HB.out.2.1) 1
  have d2 : W11.cell? ⟨pb + 1, 2, none⟩ = some (.int .i64 q.n) := cell_of (heap_kept HGV.out HB.out.2.1) 2
  have d3 : W11.cell? ⟨pb + 1, 3, none⟩ = some (.string q.name) := cell_of (heap_kept HGV.out HB.out.2.1) 3
  have d4 : W11.cell? ⟨pb + 1, 4, none⟩ = some (kw) := cell_of (heap_kept HGV.out HB.out.2.1) 4
  have hk := kids_two (HQ.out.kept (HB.out.2.2.trans HGV.out)) (HP.out.kept (HB.out.2.2.trans HGV.out))
  obtain ⟨yb, hyb⟩ : ∃ b, W11.heap.size = b := ⟨_, rfl⟩
  have gu : Grew W11 (W11.alloc (.cells #[.int .i64 q.kind, .string q.text, .int .i64 q.n, .string q.name, kw, .int .i64 p.kind, .string p.text, .int .i64 p.n, .string p.name, kv] 24)) := (Grew.refl W11).alloc _
  obtain ⟨Y, hY⟩ : ∃ W, W11.alloc (.cells #[.int .i64 q.kind, .string q.text, .int .i64 q.n, .string q.name, kw, .int .i64 p.kind, .string p.text, .int .i64 p.n, .string p.name, kv] 24) = W := ⟨_, rfl⟩
  rw [hY] at hk gu
  rw [hyb] at hk
  have HGY := hidd (HGV.out.trans gu)
  have HY8 := hidd (heap_kept gu HV8.out)
  have HY10 := hidd (heap_kept gu HV10.out)
  have HMy := hidd (And.intro (HMm.out.1.grow gu) HMm.out.2)
  have HMa : Hid (Calls Tryd.prog 10 #[.agg #[.int .i64 19, .string ⟨#[]⟩, .int .i64 0, .string ⟨#[]⟩, .slice (some ⟨yb, 0, none⟩) 2 2]] Y (MakeEnd Y (altOf q p))) := mk_alt hk (HT.out.kept (HB.out.2.2.trans HGY.out))
  clear hk gu HGV HV8 HV10 HMm
  go_wp2_with (first | (refine wpList_build_p2 rfl rfl rfl rfl ?_))
  try rw [hyb]
  try rw [hY]
  try clear hyb hY
  refine HMa.out.mono ?_; rintro e w13 ⟨v13, rfl, g13, z1, z2, m13⟩
  have h8 := heap_kept g13 HY8.out
  have h10 := heap_kept g13 HY10.out
  obtain ⟨W13, hW13⟩ : ∃ W, w13.setRow b10 v13 = W := ⟨_, rfl⟩
  have gw : Grew W0 W13 := by rw [← hW13]; exact setRow_grew (HGY.out.trans g13) HN10.out v13
  have hh10 := setRow_heap _ b10 _ v13 _ _ h10
  have hm := m13.over ((Array.getElem?_eq_some_iff.1 HY10.out).1) v13
  have hm2 := (HMy.out.1.grow g13).over HMy.out.2 v13
  have hh8 := keep_other (v := v13) h8 HNe.out
  rw [hW13] at hh10 hm hm2 hh8
  have HGV := hidd gw
  have HV8 := hidd hh8
  have HV10 := hidd hh10
  have HSz : Hid (Calls Tryd.prog 12 #[.agg v11, .agg v13] W13 fun e w' => e = .returned (.bool true) ∧ Grew W13 w') := mk_same hm2.at hm.at (makeErr_swap HEp.out) fun h => autL_swap h ((makeErr_swap HEp.out).symm.trans h)
  have HS13 := hidd (And.intro z1 z2)
  have HO10 := hidd h10
  clear z1 z2 m13 h8 h10 gw hh8 hm hm2 hh10 g13 HGY HY8 HY10 HMy HMa a0 a1 a2 a3 a4 d0 d1 d2 d3 d4
  rw [← makeErr_swap HEp.out, HEa.out]
  go_upto_region 19 with (refine wpList_store_aut (b := b10) rfl rfl rfl rfl HO10.out HS10.out.1 HS13.out.1 HS13.out.2 ?_)
  try rw [hW13]
  clear hW13 HO10
  go_wp2_with fail
  refine oper_load_autH (b := b8) rfl rfl HV8.out HS11.out.1 ?_
  go_wp2_with fail
  refine oper_load_autH (b := b10) rfl rfl HV10.out HS13.out.1 ?_
  go_wp2_with fail
  refine HSz.out.mono ?_; rintro e w14 ⟨rfl, g14⟩
  have HGZ := hidd (HGV.out.trans g14)
  clear g14
  go_wp2_with fail
  go_ret
  exact ⟨rfl, HB.out.2.2.trans HGZ.out⟩
end Go.Proofs.YtkkdpafkafjfgaaDoor
