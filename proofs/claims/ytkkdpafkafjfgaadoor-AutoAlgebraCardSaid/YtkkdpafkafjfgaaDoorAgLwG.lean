/- AutoAlgebra: the walk. Printed by gen-lwg.py. -/
import Derived.Test.YtkkdpafkafjfgaaDoorAgLwB
import Derived.Deep.DeepCutAuto
namespace Go.Proofs.YtkkdpafkafjfgaaDoor
open Go.RowKit RR
set_option linter.unusedVariables false
set_option linter.unusedSimpArgs false
set_option maxRecDepth 100000
theorem oper_load_autG {o : Oper} {a : Act} {w : World} {K : Act → World → Prop} {Q : Exit → Act → World → Prop} {x : Operand} (ho : o.op = .load 30 x) {b : Nat} {av : Array Value} (hx : a.eval x = .pointer (some ⟨b, 0, none⟩)) (hA : w.heap[b]? = some (.cells av 30 (0, 0))) (hs : av.size = 258)
    (h : K (a.put o.dst (.agg av)) w) : Oper.wp Tryd.prog o a w K Q := by
  have hl := run_loadVar_row (P := Tryd.prog) w b 30 30 av (0, 0) _ hA Tryd.underlying30 rfl (by rw [hs]; exact info_aut)
  unfold Oper.wp execOp
  simp only [ho, hx, Instr.loadAt, Instr.sureAddr, Sem.run_bind, Sem.run_pure, Result.andThen_ok, hl]
  exact h
theorem make_alt {w : World} {v : Value} {p q : Pat} (hk : KidsAt w v [p, q]) (hT : TabZ32 w) : Calls Tryd.prog 10 #[.agg #[.int .i64 19, .string ⟨#[]⟩, .int .i64 0, .string ⟨#[]⟩, v]] w fun e w' => ∃ x, e = .returned (.tuple #[.agg x, .int .i64 (makeErr (altOf p q))]) ∧ Grew w w' ∧ x.size = 258 ∧ x.all (·.oneCell') = true ∧ (makeErr (altOf p q) = 0 → ∃ n, AutVal w' x (autL (altOf p q)) n) := by
  have h := make_all (pat_of_kids (k := 19) hk (by decide)) hT
  unfold altOf
  exact h
def A1 : RA := ⟨1, fun _ _ => 0, fun _ => false⟩
theorem A1_can : Can A1 := by
  refine ⟨⟨by decide, fun s c _ _ => (by decide : 0 < 1)⟩, fun s t hs ht _ => ?_, ?_, ?_⟩
  · have hs : s < 1 := hs
    have ht : t < 1 := ht
    omega
  · have : ∀ p : Fin 256, A1.arr p.val ≤ A1.top p.val := by decide +kernel
    intro p hp
    exact this ⟨p, hp⟩
  · intro s hs
    have hs : s < 1 := hs
    obtain rfl : s = 0 := by omega
    decide
theorem A1_tak (l : List UInt8) : A1.tak 0 l = false := rfl
theorem AutVal.none {w : World} {v : Array Value} {n : Nat} (h : AutVal w v (fun _ => false) n) : n = 1 ∧ ∃ na nc eb eo ec, v[256]? = some (.slice na 1 nc) ∧ v[257]? = some (.slice (some ⟨eb, eo, none⟩) 1 ec) ∧ w.cell? ⟨eb, eo, none⟩ = some (.bool false) := by
  obtain ⟨B, na, nc, ea, ec, rfl, h1, h2, rfl⟩ := h
  have hn := h2.canN A1_can fun l => A1_tak l
  have hn1 : B.next.length = 1 := hn
  have hel : B.ends.length = 1 := by rw [h2.right.ne, hn1]
  have he0 : B.ends.getD 0 false = false := h2.lang []
  obtain ⟨eb, eo, rfl, hce⟩ := h1.ends.get (by omega)
  refine ⟨hn1, na, nc, eb, eo, ec, by rw [len_next, hn1], by rw [autB_ends, hel], ?_⟩
  have := hce 0 (by omega)
  rw [he0] at this
  simpa using this
set_option maxHeartbeats 8000000 in
theorem AutoAlgebra_walk (p q : Pat) (kv kw : Value) (w : World) (hp : PatV w kv p) (hq : PatV w kw q) (hT : TabZ32 w) :
    Calls Tryd.prog 5 #[.agg (p.cells kv), .agg (q.cells kw)] w fun e w' => e = .returned (.bool true) ∧ Grew w w' := by
  have hz := zero_aut
  have HP := hidd hp
  have HQ := hidd hq
  have HT := hidd hT
  have HAl : Hid (∀ w1, Grew w w1 → Calls Tryd.prog 13 #[] w1 fun e w' => e = .returned (.bool true) ∧ Grew w1 w') := fun w1 g => Alive_any w1 (hT.kept g)
  have hb1 := heap_kept ((Grew.refl _).alloc (.cells (q.cells kw) 24)) (heap_alloc_new w (.cells (p.cells kv) 24))
  have hb2 := heap_alloc2_new w (.cells (p.cells kv) 24) (.cells (q.cells kw) 24)
  have hg := ((Grew.refl w).alloc (.cells (p.cells kv) 24)).alloc (.cells (q.cells kw) 24)
  obtain ⟨W0, hW0⟩ : ∃ W, (w.alloc (.cells (p.cells kv) 24)).alloc (.cells (q.cells kw) 24) = W := ⟨_, rfl⟩
  rw [hW0] at hb1 hb2 hg
  obtain ⟨pb, hpb⟩ : ∃ pb, w.heap.size = pb := ⟨_, rfl⟩
  rw [hpb] at hb1 hb2
  have HB := hidd (And.intro hb1 (And.intro hb2 hg))
  have HFe : Hid (∀ w1, Grew w w1 → ∀ p : Pat, ∀ kv, PatV w kv p → Calls Tryd.prog 10 #[.agg #[.int .i64 p.kind, .string p.text, .int .i64 p.n, .string p.name, kv]] w1 fun e w' => ∃ v, e = .returned (.tuple #[.agg v, .int .i64 (makeErr p)]) ∧ Grew w1 w' ∧ v.size = 258 ∧ v.all (·.oneCell') = true ∧ (makeErr p = 0 → ∃ n, AutVal w' v (autL p) n)) := fun w1 g p kv hp => by
    by_cases h0 : makeErr p = 0
    · refine (make_val (hp.kept g) (hT.kept g) h0).mono ?_
      rintro e w' ⟨v, n, he, hg, hv⟩
      exact ⟨v, by rw [h0]; exact he, hg, hv.size, hv.ones, fun _ => ⟨n, hv⟩⟩
    · refine (make_err (hp.kept g) (hT.kept g)).mono ?_
      rintro e w' ⟨v, he, hg, h1, h2⟩
      exact ⟨v, he, hg, h1, h2, fun h => absurd h h0⟩
  clear hb1 hb2 hg hp hq hT
  unfold Pat.cells at hW0 ⊢
  go_enter Tryd.func5, Tryd.ntmps5
  go_wp2_with (rw [hW0])
  refine (HAl.out _ HB.out.2.2).mono ?_; rintro e w1 ⟨rfl, g1⟩
  have HG1 := hidd (HB.out.2.2.trans g1)
  have hc1 := heap_kept g1 HB.out.1
  have hc2 := heap_kept g1 HB.out.2.1
  have a0 : w1.cell? ⟨pb, 0, none⟩ = some (.int .i64 p.kind) := cell_of hc1 0
  have a1 : w1.cell? ⟨pb, 1, none⟩ = some (.string p.text) := cell_of hc1 1
  have a2 : w1.cell? ⟨pb, 2, none⟩ = some (.int .i64 p.n) := cell_of hc1 2
  have a3 : w1.cell? ⟨pb, 3, none⟩ = some (.string p.name) := cell_of hc1 3
  have a4 : w1.cell? ⟨pb, 4, none⟩ = some kv := cell_of hc1 4
  have HC1 := hidd (And.intro hc1 hc2)
  clear g1 hc1 hc2 hW0 HAl
  go_wp2_with fail
  refine (HFe.out _ HG1.out p kv HP.out).mono ?_; rintro e w2 ⟨v5, rfl, g2, z1, z2, hv5⟩
  obtain ⟨b5, hb5⟩ : ∃ b, w2.heap.size = b := ⟨_, rfl⟩
  have HZ2 : Hid ((w2.alloc (.cells zAut 30)).heap[b5]? = some (.cells zAut 30 (0, 0))) := by rw [← hb5]; exact heap_alloc_new w2 _
  obtain ⟨W2, hW2⟩ : ∃ W, (w2.alloc (.cells zAut 30)).setRow b5 v5 = W := ⟨_, rfl⟩
  have gw2 : Grew w2 W2 := by rw [← hW2]; exact setRow_grew ((Grew.refl w2).alloc _) (by omega) v5
  have hh5 := setRow_heap _ b5 _ v5 _ _ HZ2.out
  rw [hW2] at hh5
  have HG2 := hidd (HG1.out.trans (g2.trans gw2))
  have HC2 := hidd (And.intro (heap_kept (g2.trans gw2) HC1.out.1) (heap_kept (g2.trans gw2) HC1.out.2))
  have HV5 : Hid (makeErr p = 0 → ∃ n, AutIn W2 b5 v5 (autL p) n) := fun h => by obtain ⟨n, hn⟩ := hv5 h; exact ⟨n, hh5, hn.kept gw2⟩
  have HS5 := hidd (And.intro z1 z2)
  have d0 : W2.cell? ⟨pb + 1, 0, none⟩ = some (.int .i64 q.kind) := cell_of HC2.out.2 0
  have d1 : W2.cell? ⟨pb + 1, 1, none⟩ = some (.string q.text) := cell_of HC2.out.2 1
  have d2 : W2.cell? ⟨pb + 1, 2, none⟩ = some (.int .i64 q.n) := cell_of HC2.out.2 2
  have d3 : W2.cell? ⟨pb + 1, 3, none⟩ = some (.string q.name) := cell_of HC2.out.2 3
  have d4 : W2.cell? ⟨pb + 1, 4, none⟩ = some kw := cell_of HC2.out.2 4
  clear z1 z2 hv5 g2 gw2 hh5 HC1 HG1 a0 a1 a2 a3 a4
  obtain ⟨ep, hep⟩ : ∃ ep, makeErr p = ep := ⟨_, rfl⟩
  have HEp := hidd hep
  rw [hep]
  clear hep
  go_upto_region 4 with (refine wpList_store_aut (b := b5) rfl rfl rfl rfl HZ2.out zAut_size HS5.out.1 HS5.out.2 ?_)
  try rw [hW2]
  go_wp2_with fail
  refine (HFe.out _ HG2.out q kw HQ.out).mono ?_; rintro e w3 ⟨v7, rfl, g3, z1, z2, hv7⟩
  obtain ⟨b7, hb7⟩ : ∃ b, w3.heap.size = b := ⟨_, rfl⟩
  have HZ3 : Hid ((w3.alloc (.cells zAut 30)).heap[b7]? = some (.cells zAut 30 (0, 0))) := by rw [← hb7]; exact heap_alloc_new w3 _
  obtain ⟨W3, hW3⟩ : ∃ W, (w3.alloc (.cells zAut 30)).setRow b7 v7 = W := ⟨_, rfl⟩
  have gw3 : Grew w3 W3 := by rw [← hW3]; exact setRow_grew ((Grew.refl w3).alloc _) (by omega) v7
  have hh7 := setRow_heap _ b7 _ v7 _ _ HZ3.out
  rw [hW3] at hh7
  have HG3 := hidd (HG2.out.trans (g3.trans gw3))
  have HC3 := hidd (And.intro (heap_kept (g3.trans gw3) HC2.out.1) (heap_kept (g3.trans gw3) HC2.out.2))
  have HV53 : Hid (makeErr p = 0 → ∃ n, AutIn W3 b5 v5 (autL p) n) := fun h => by obtain ⟨n, hn⟩ := HV5.out h; exact ⟨n, hn.kept (g3.trans gw3)⟩
  have HV7 : Hid (makeErr q = 0 → ∃ n, AutIn W3 b7 v7 (autL q) n) := fun h => by obtain ⟨n, hn⟩ := hv7 h; exact ⟨n, hh7, hn.kept gw3⟩
  have HS7 := hidd (And.intro z1 z2)
  clear z1 z2 hv7 g3 gw3 hh7 HC2 HG2 d0 d1 d2 d3 d4 hb5 hW2 HV5 HZ2
  obtain ⟨eq, heq⟩ : ∃ eq, makeErr q = eq := ⟨_, rfl⟩
  have HEq := hidd heq
  rw [heq]
  clear heq
  go_upto_region 5 with (refine wpList_store_aut (b := b7) rfl rfl rfl rfl HZ3.out zAut_size HS7.out.1 HS7.out.2 ?_)
  try rw [hW3]
  clear hb7 hW3 HZ3
  by_cases hp0 : ep = 0
  rotate_left
  · have k1 : (ep != 0) = true := by simpa using hp0
    go_wp2_with fail
    go_ret
    exact ⟨rfl, HG3.out⟩
  by_cases hq0 : eq = 0
  rotate_left
  · have k1 : (eq != 0) = true := by simpa using hq0
    subst hp0
    go_wp2_with fail
    go_ret
    exact ⟨rfl, HG3.out⟩
  subst hp0
  subst hq0
  obtain ⟨n, hn⟩ := HV53.out HEp.out
  obtain ⟨m, hm⟩ := HV7.out HEq.out
  have HA := hidd hn
  have HD := hidd hm
  obtain ⟨na, nc, e5⟩ := hn.next
  obtain ⟨na', nc', e7⟩ := hm.next
  have hn8 := hn.2.pos
  have hm8 := hm.2.pos
  clear hn hm
  by_cases hn60 : 60 < n
  · have k1 : decide ((60 : Int) < (n : Int)) = true := decide_eq_true (by omega)
    go_wp2_with fail
    go_ret
    exact ⟨rfl, HG3.out⟩
  have k1 : decide ((60 : Int) < (n : Int)) = false := decide_eq_false (by omega)
  by_cases hm60 : 60 < m
  · have k2 : decide ((60 : Int) < (m : Int)) = true := decide_eq_true (by omega)
    go_wp2_with fail
    go_ret
    exact ⟨rfl, HG3.out⟩
  have k2 : decide ((60 : Int) < (m : Int)) = false := decide_eq_false (by omega)
  obtain ⟨nm, hnm⟩ : ∃ nm, n * m = nm := ⟨_, rfl⟩
  have hnm9 : nm ≤ 3600 := by rw [← hnm]; exact Nat.mul_le_mul (by omega : n ≤ 60) (by omega : m ≤ 60)
  have hnmi : (n : Int) * (m : Int) = (nm : Int) := by rw [← hnm]; simp
  have HNm := hidd hnm
  clear hnm
  by_cases h400 : 400 < nm
  · have k3 : decide ((400 : Int) < (nm : Int)) = true := decide_eq_true (by omega)
    go_wp2_with (simp only [hnmi])
    go_ret
    exact ⟨rfl, HG3.out⟩
  have k3 : decide ((400 : Int) < (nm : Int)) = false := decide_eq_false (by omega)
  have HNn : Hid (n * n ≤ 8192) := Nat.le_trans (Nat.mul_le_mul (by omega : n ≤ 60) (by omega : n ≤ 60)) (by decide)
  have HN8 : Hid (n * m ≤ 8192) := by rw [Hid, HNm.out]; omega
  go_upto_region 7 with (simp only [hnmi])
  go_wp2_with (first | (refine wpList_load_aut (b := b5) rfl rfl rfl HA.out.1 HA.out.2.size ?_))
  refine (not_val HA.out.2).mono ?_
  rintro e w4 ⟨v14, rfl, g4, hv14⟩
  obtain ⟨b14, hb14⟩ : ∃ b, w4.heap.size = b := ⟨_, rfl⟩
  have HZ4 : Hid ((w4.alloc (.cells zAut 30)).heap[b14]? = some (.cells zAut 30 (0, 0))) := by rw [← hb14]; exact heap_alloc_new w4 _
  obtain ⟨W4, hW4⟩ : ∃ W, (w4.alloc (.cells zAut 30)).setRow b14 v14 = W := ⟨_, rfl⟩
  obtain ⟨hi, gw⟩ := put_aut hv14
  rw [hb14, hW4] at hi gw
  have HS4 := hidd (And.intro hv14.size hv14.ones)
  have gg4 := g4.trans gw
  have Hxa4 := hidd (HA.out.kept gg4)
  have Hxb4 := hidd (HD.out.kept gg4)
  have Hxna4 := hidd hi
  have HG4 := hidd (HG3.out.trans gg4)
  have HC4 := hidd (And.intro (heap_kept gg4 HC3.out.1) (heap_kept gg4 HC3.out.2))
  clear hi gw g4 gg4 hv14 HG3 HC3 HA HD e5 e7 k1 k2 k3 hnmi
  go_upto_region 8 with (refine wpList_store_aut (b := b14) rfl rfl rfl rfl HZ4.out zAut_size HS4.out.1 HS4.out.2 ?_)
  try rw [hW4]
  go_wp2_with (first | (refine wpList_load_aut (b := b7) rfl rfl rfl Hxb4.out.1 Hxb4.out.2.size ?_))
  refine (not_val Hxb4.out.2).mono ?_
  rintro e w5 ⟨v15, rfl, g5, hv15⟩
  obtain ⟨b15, hb15⟩ : ∃ b, w5.heap.size = b := ⟨_, rfl⟩
  have HZ5 : Hid ((w5.alloc (.cells zAut 30)).heap[b15]? = some (.cells zAut 30 (0, 0))) := by rw [← hb15]; exact heap_alloc_new w5 _
  obtain ⟨W5, hW5⟩ : ∃ W, (w5.alloc (.cells zAut 30)).setRow b15 v15 = W := ⟨_, rfl⟩
  obtain ⟨hi, gw⟩ := put_aut hv15
  rw [hb15, hW5] at hi gw
  have HS5 := hidd (And.intro hv15.size hv15.ones)
  have gg5 := g5.trans gw
  have Hxa5 := hidd (Hxa4.out.kept gg5)
  have Hxb5 := hidd (Hxb4.out.kept gg5)
  have Hxna5 := hidd (Hxna4.out.kept gg5)
  have Hxnb5 := hidd hi
  have HG5 := hidd (HG4.out.trans gg5)
  have HC5 := hidd (And.intro (heap_kept gg5 HC4.out.1) (heap_kept gg5 HC4.out.2))
  clear hi gw g5 gg5 hv15 HG4 HC4 Hxa4 Hxb4 Hxna4 hb14 hW4 HZ4
  go_upto_region 9 with (refine wpList_store_aut (b := b15) rfl rfl rfl rfl HZ5.out zAut_size HS5.out.1 HS5.out.2 ?_)
  try rw [hW5]
  go_wp2_with (first | (refine wpList_load_aut (b := b5) rfl rfl rfl Hxa5.out.1 Hxa5.out.2.size ?_) | (refine wpList_load_aut (b := b7) rfl rfl rfl Hxb5.out.1 Hxb5.out.2.size ?_))
  refine (both_val Hxa5.out.2 Hxb5.out.2 HN8.out).mono ?_
  rintro e w6 ⟨v16, n16, rfl, g6, hv16⟩
  obtain ⟨b16, hb16⟩ : ∃ b, w6.heap.size = b := ⟨_, rfl⟩
  have HZ6 : Hid ((w6.alloc (.cells zAut 30)).heap[b16]? = some (.cells zAut 30 (0, 0))) := by rw [← hb16]; exact heap_alloc_new w6 _
  obtain ⟨W6, hW6⟩ : ∃ W, (w6.alloc (.cells zAut 30)).setRow b16 v16 = W := ⟨_, rfl⟩
  obtain ⟨hi, gw⟩ := put_aut hv16
  rw [hb16, hW6] at hi gw
  have HS6 := hidd (And.intro hv16.size hv16.ones)
  have gg6 := g6.trans gw
  have Hxa6 := hidd (Hxa5.out.kept gg6)
  have Hxb6 := hidd (Hxb5.out.kept gg6)
  have Hxna6 := hidd (Hxna5.out.kept gg6)
  have Hxnb6 := hidd (Hxnb5.out.kept gg6)
  have Hxc6 := hidd hi
  have HG6 := hidd (HG5.out.trans gg6)
  have HC6 := hidd (And.intro (heap_kept gg6 HC5.out.1) (heap_kept gg6 HC5.out.2))
  clear hi gw g6 gg6 hv16 HG5 HC5 Hxa5 Hxb5 Hxna5 Hxnb5 hb15 hW5 HZ5
  go_upto_region 10 with (refine wpList_store_aut (b := b16) rfl rfl rfl rfl HZ6.out zAut_size HS6.out.1 HS6.out.2 ?_)
  try rw [hW6]
  go_wp2_with (first | (refine wpList_load_aut (b := b16) rfl rfl rfl Hxc6.out.1 Hxc6.out.2.size ?_))
  refine (not_val Hxc6.out.2).mono ?_
  rintro e w7 ⟨v17, rfl, g7, hv17⟩
  obtain ⟨b17, hb17⟩ : ∃ b, w7.heap.size = b := ⟨_, rfl⟩
  have HZ7 : Hid ((w7.alloc (.cells zAut 30)).heap[b17]? = some (.cells zAut 30 (0, 0))) := by rw [← hb17]; exact heap_alloc_new w7 _
  obtain ⟨W7, hW7⟩ : ∃ W, (w7.alloc (.cells zAut 30)).setRow b17 v17 = W := ⟨_, rfl⟩
  obtain ⟨hi, gw⟩ := put_aut hv17
  rw [hb17, hW7] at hi gw
  have HS7 := hidd (And.intro hv17.size hv17.ones)
  have gg7 := g7.trans gw
  have Hxa7 := hidd (Hxa6.out.kept gg7)
  have Hxb7 := hidd (Hxb6.out.kept gg7)
  have Hxna7 := hidd (Hxna6.out.kept gg7)
  have Hxnb7 := hidd (Hxnb6.out.kept gg7)
  have Hxc7 := hidd (Hxc6.out.kept gg7)
  have Hxx7 := hidd hi
  have HG7 := hidd (HG6.out.trans gg7)
  have HC7 := hidd (And.intro (heap_kept gg7 HC6.out.1) (heap_kept gg7 HC6.out.2))
  clear hi gw g7 gg7 hv17 HG6 HC6 Hxa6 Hxb6 Hxna6 Hxnb6 Hxc6 hb16 hW6 HZ6
  go_upto_region 11 with (refine wpList_store_aut (b := b17) rfl rfl rfl rfl HZ7.out zAut_size HS7.out.1 HS7.out.2 ?_)
  try rw [hW7]
  go_wp2_with (first | (refine wpList_load_aut (b := b14) rfl rfl rfl Hxna7.out.1 Hxna7.out.2.size ?_) | (refine wpList_load_aut (b := b15) rfl rfl rfl Hxnb7.out.1 Hxnb7.out.2.size ?_))
  refine (either_val Hxna7.out.2 Hxnb7.out.2 HN8.out).mono ?_
  rintro e w8 ⟨v18, n18, rfl, g8, hv18⟩
  obtain ⟨b18, hb18⟩ : ∃ b, w8.heap.size = b := ⟨_, rfl⟩
  have HZ8 : Hid ((w8.alloc (.cells zAut 30)).heap[b18]? = some (.cells zAut 30 (0, 0))) := by rw [← hb18]; exact heap_alloc_new w8 _
  obtain ⟨W8, hW8⟩ : ∃ W, (w8.alloc (.cells zAut 30)).setRow b18 v18 = W := ⟨_, rfl⟩
  obtain ⟨hi, gw⟩ := put_aut hv18
  rw [hb18, hW8] at hi gw
  have HS8 := hidd (And.intro hv18.size hv18.ones)
  have gg8 := g8.trans gw
  have Hxa8 := hidd (Hxa7.out.kept gg8)
  have Hxb8 := hidd (Hxb7.out.kept gg8)
  have Hxna8 := hidd (Hxna7.out.kept gg8)
  have Hxnb8 := hidd (Hxnb7.out.kept gg8)
  have Hxc8 := hidd (Hxc7.out.kept gg8)
  have Hxx8 := hidd (Hxx7.out.kept gg8)
  have Hxy8 := hidd hi
  have HG8 := hidd (HG7.out.trans gg8)
  have HC8 := hidd (And.intro (heap_kept gg8 HC7.out.1) (heap_kept gg8 HC7.out.2))
  clear hi gw g8 gg8 hv18 HG7 HC7 Hxa7 Hxb7 Hxna7 Hxnb7 Hxc7 Hxx7 hb17 hW7 HZ7
  go_upto_region 12 with (refine wpList_store_aut (b := b18) rfl rfl rfl rfl HZ8.out zAut_size HS8.out.1 HS8.out.2 ?_)
  try rw [hW8]
  go_wp2_with (first | (refine wpList_load_aut (b := b14) rfl rfl rfl Hxna8.out.1 Hxna8.out.2.size ?_))
  refine (not_val Hxna8.out.2).mono ?_
  rintro e w9 ⟨v19, rfl, g9, hv19⟩
  obtain ⟨b19, hb19⟩ : ∃ b, w9.heap.size = b := ⟨_, rfl⟩
  have HZ9 : Hid ((w9.alloc (.cells zAut 30)).heap[b19]? = some (.cells zAut 30 (0, 0))) := by rw [← hb19]; exact heap_alloc_new w9 _
  obtain ⟨W9, hW9⟩ : ∃ W, (w9.alloc (.cells zAut 30)).setRow b19 v19 = W := ⟨_, rfl⟩
  obtain ⟨hi, gw⟩ := put_aut hv19
  rw [hb19, hW9] at hi gw
  have HS9 := hidd (And.intro hv19.size hv19.ones)
  have gg9 := g9.trans gw
  have Hxa9 := hidd (Hxa8.out.kept gg9)
  have Hxb9 := hidd (Hxb8.out.kept gg9)
  have Hxna9 := hidd (Hxna8.out.kept gg9)
  have Hxnb9 := hidd (Hxnb8.out.kept gg9)
  have Hxc9 := hidd (Hxc8.out.kept gg9)
  have Hxx9 := hidd (Hxx8.out.kept gg9)
  have Hxy9 := hidd (Hxy8.out.kept gg9)
  have Hxbk9 := hidd hi
  have HG9 := hidd (HG8.out.trans gg9)
  have HC9 := hidd (And.intro (heap_kept gg9 HC8.out.1) (heap_kept gg9 HC8.out.2))
  clear hi gw g9 gg9 hv19 HG8 HC8 Hxa8 Hxb8 Hxna8 Hxnb8 Hxc8 Hxx8 Hxy8 hb18 hW8 HZ8
  go_upto_region 13 with (refine wpList_store_aut (b := b19) rfl rfl rfl rfl HZ9.out zAut_size HS9.out.1 HS9.out.2 ?_)
  try rw [hW9]
  go_wp2_with (first | (refine wpList_load_aut (b := b5) rfl rfl rfl Hxa9.out.1 Hxa9.out.2.size ?_) | (refine wpList_load_aut (b := b14) rfl rfl rfl Hxna9.out.1 Hxna9.out.2.size ?_))
  refine (both_val Hxa9.out.2 Hxna9.out.2 HNn.out).mono ?_
  rintro e w10 ⟨v20, n20, rfl, g10, hv20⟩
  obtain ⟨b20, hb20⟩ : ∃ b, w10.heap.size = b := ⟨_, rfl⟩
  have HZ10 : Hid ((w10.alloc (.cells zAut 30)).heap[b20]? = some (.cells zAut 30 (0, 0))) := by rw [← hb20]; exact heap_alloc_new w10 _
  obtain ⟨W10, hW10⟩ : ∃ W, (w10.alloc (.cells zAut 30)).setRow b20 v20 = W := ⟨_, rfl⟩
  obtain ⟨hi, gw⟩ := put_aut hv20
  rw [hb20, hW10] at hi gw
  have HS10 := hidd (And.intro hv20.size hv20.ones)
  have gg10 := g10.trans gw
  have Hxa10 := hidd (Hxa9.out.kept gg10)
  have Hxb10 := hidd (Hxb9.out.kept gg10)
  have Hxna10 := hidd (Hxna9.out.kept gg10)
  have Hxnb10 := hidd (Hxnb9.out.kept gg10)
  have Hxc10 := hidd (Hxc9.out.kept gg10)
  have Hxx10 := hidd (Hxx9.out.kept gg10)
  have Hxy10 := hidd (Hxy9.out.kept gg10)
  have Hxbk10 := hidd (Hxbk9.out.kept gg10)
  have Hxno10 := hidd hi
  have HG10 := hidd (HG9.out.trans gg10)
  have HC10 := hidd (And.intro (heap_kept gg10 HC9.out.1) (heap_kept gg10 HC9.out.2))
  clear hi gw g10 gg10 hv20 HG9 HC9 Hxa9 Hxb9 Hxna9 Hxnb9 Hxc9 Hxx9 Hxy9 Hxbk9 hb19 hW9 HZ9
  have hno := Hxno10.out.2.as (M := fun _ => false) (fun l => by cases autL p l <;> rfl)
  obtain ⟨hn1, na1, nc1, eb1, eo1, ec1, q256, q257, qe⟩ := hno.none
  have HSame1 := hidd (same_val Hxx10.out.2 Hxy10.out.2 (fun l => by cases autL p l <;> cases autL q l <;> rfl))
  go_upto_region 14 with (refine wpList_store_aut (b := b20) rfl rfl rfl rfl HZ10.out zAut_size HS10.out.1 HS10.out.2 ?_)
  try rw [hW10]
  clear hb20 hW10 HZ10
  go_upto_region 16 with fail
  go_wp2_with (first | (refine wpList_load_aut (b := b17) rfl rfl rfl Hxx10.out.1 Hxx10.out.2.size ?_) | (refine wpList_load_aut (b := b18) rfl rfl rfl Hxy10.out.1 Hxy10.out.2.size ?_))
  refine HSame1.out.mono ?_; rintro e w20 ⟨rfl, g20⟩
  have Hxa20 := hidd (Hxa10.out.kept g20)
  have Hxb20 := hidd (Hxb10.out.kept g20)
  have Hxbk20 := hidd (Hxbk10.out.kept g20)
  have Hxno20 := hidd (Hxno10.out.kept g20)
  have HG20 := hidd (HG10.out.trans g20)
  have HC20 := hidd (And.intro (heap_kept g20 HC10.out.1) (heap_kept g20 HC10.out.2))
  have qe20 := g20.keeps qe
  clear g20 HSame1 qe hno
  have HSame2 := hidd (same_val Hxbk20.out.2 Hxa20.out.2 (fun l => by cases autL p l <;> rfl))
  go_wp2_with fail
  refine oper_load_autG (b := b19) rfl rfl Hxbk20.out.1 Hxbk20.out.2.size ?_
  go_wp2_with fail
  refine oper_load_autG (b := b5) rfl rfl Hxa20.out.1 Hxa20.out.2.size ?_
  go_wp2_with fail
  refine HSame2.out.mono ?_; rintro e w21 ⟨rfl, g21⟩
  have Hxa21 := hidd (Hxa20.out.kept g21)
  have Hxb21 := hidd (Hxb20.out.kept g21)
  have Hxno21 := hidd (Hxno20.out.kept g21)
  have HG21 := hidd (HG20.out.trans g21)
  have HC21 := hidd (And.intro (heap_kept g21 HC20.out.1) (heap_kept g21 HC20.out.2))
  have qe21 := g21.keeps qe20
  have q1 : w21.cell? ⟨b20, 256, none⟩ = some (.slice na1 1 nc1) := by rw [cell_of Hxno21.out.1]; exact q256
  have q2 : w21.cell? ⟨b20, 257, none⟩ = some (.slice (some ⟨eb1, eo1, none⟩) 1 ec1) := by rw [cell_of Hxno21.out.1]; exact q257
  clear g21 HSame2 qe20 q256 q257
  go_wp2_with (first | (refine wpList_load_aut (b := b5) rfl rfl rfl Hxa21.out.1 Hxa21.out.2.size ?_) | (refine wpList_load_aut (b := b7) rfl rfl rfl Hxb21.out.1 Hxb21.out.2.size ?_))
  refine (either_val Hxa21.out.2 Hxb21.out.2 HN8.out).mono ?_
  rintro e w22 ⟨v32, n32, rfl, g22, hv32⟩
  obtain ⟨b32, hb32⟩ : ∃ b, w22.heap.size = b := ⟨_, rfl⟩
  have HZ22 : Hid ((w22.alloc (.cells zAut 30)).heap[b32]? = some (.cells zAut 30 (0, 0))) := by rw [← hb32]; exact heap_alloc_new w22 _
  obtain ⟨W22, hW22⟩ : ∃ W, (w22.alloc (.cells zAut 30)).setRow b32 v32 = W := ⟨_, rfl⟩
  obtain ⟨hi, gw⟩ := put_aut hv32
  rw [hb32, hW22] at hi gw
  have HS22 := hidd (And.intro hv32.size hv32.ones)
  have gg22 := g22.trans gw
  have Hxa22 := hidd (Hxa21.out.kept gg22)
  have Hxb22 := hidd (Hxb21.out.kept gg22)
  have Hxor22 := hidd hi
  have HG22 := hidd (HG21.out.trans gg22)
  have HC22 := hidd (And.intro (heap_kept gg22 HC21.out.1) (heap_kept gg22 HC21.out.2))
  clear hi gw g22 gg22 hv32 HG21 HC21 Hxa21 Hxb21 q1 q2 qe21
  go_upto_region 19 with (refine wpList_store_aut (b := b32) rfl rfl rfl rfl HZ22.out zAut_size HS22.out.1 HS22.out.2 ?_)
  try rw [hW22]
  clear hb32 hW22 HZ22
  have a0 : W22.cell? ⟨pb, 0, none⟩ = some (.int .i64 p.kind) := cell_of HC22.out.1 0
  have a1 : W22.cell? ⟨pb, 1, none⟩ = some (.string p.text) := cell_of HC22.out.1 1
  have a2 : W22.cell? ⟨pb, 2, none⟩ = some (.int .i64 p.n) := cell_of HC22.out.1 2
  have a3 : W22.cell? ⟨pb, 3, none⟩ = some (.string p.name) := cell_of HC22.out.1 3
  have a4 : W22.cell? ⟨pb, 4, none⟩ = some (kv) := cell_of HC22.out.1 4
  have d0 : W22.cell? ⟨pb + 1, 0, none⟩ = some (.int .i64 q.kind) := cell_of HC22.out.2 0
  have d1 : W22.cell? ⟨pb + 1, 1, none⟩ = some (.string q.text) := cell_of HC22.out.2 1
  have d2 : W22.cell? ⟨pb + 1, 2, none⟩ = some (.int .i64 q.n) := cell_of HC22.out.2 2
  have d3 : W22.cell? ⟨pb + 1, 3, none⟩ = some (.string q.name) := cell_of HC22.out.2 3
  have d4 : W22.cell? ⟨pb + 1, 4, none⟩ = some (kw) := cell_of HC22.out.2 4
  have hk := kids_two (HP.out.kept HG22.out) (HQ.out.kept HG22.out)
  obtain ⟨W23, hW23⟩ : ∃ W, W22.alloc (.cells #[.int .i64 p.kind, .string p.text, .int .i64 p.n, .string p.name, kv, .int .i64 q.kind, .string q.text, .int .i64 q.n, .string q.name, kw] 24) = W := ⟨_, rfl⟩
  have g23 : Grew W22 W23 := by rw [← hW23]; exact (Grew.refl W22).alloc _
  rw [hW23] at hk
  obtain ⟨ab, hab⟩ : ∃ ab, W22.heap.size = ab := ⟨_, rfl⟩
  rw [hab] at hk
  have HMk := hidd (make_alt hk (HT.out.kept (HG22.out.trans g23)))
  have HG23 := hidd (HG22.out.trans g23)
  have HO23 := hidd (Hxor22.out.kept g23)
  have HEa := hidd (makeErr_alt HEp.out HEq.out)
  have HLa := hidd (fun h => autL_alt (p := p) (q := q) HEp.out HEq.out h)
  clear hk g23 HG22 HC22 Hxor22
  go_wp2_with (first | (refine wpList_build_p2 rfl rfl rfl rfl ?_))
  try rw [hW23]
  go_wp2_with fail
  refine HMk.out.mono ?_; rintro e w24 ⟨v24, rfl, g24, z1, z2, hv24⟩
  obtain ⟨b24, hb24⟩ : ∃ b, w24.heap.size = b := ⟨_, rfl⟩
  have HZ24 : Hid ((w24.alloc (.cells zAut 30)).heap[b24]? = some (.cells zAut 30 (0, 0))) := by rw [← hb24]; exact heap_alloc_new w24 _
  obtain ⟨W24, hW24⟩ : ∃ W, (w24.alloc (.cells zAut 30)).setRow b24 v24 = W := ⟨_, rfl⟩
  have gw : Grew w24 W24 := by rw [← hW24]; exact setRow_grew ((Grew.refl w24).alloc _) (by omega) v24
  have hh := setRow_heap _ b24 _ v24 _ _ HZ24.out
  rw [hW24] at hh
  have HS24 := hidd (And.intro z1 z2)
  have HV24 : Hid (makeErr (altOf p q) = 0 → ∃ n, AutIn W24 b24 v24 (autL (altOf p q)) n) := fun h => by obtain ⟨n, hn⟩ := hv24 h; exact ⟨n, hh, hn.kept gw⟩
  have HO24 := hidd (HO23.out.kept (g24.trans gw))
  have HG24 := hidd (HG23.out.trans (g24.trans gw))
  clear z1 z2 hv24 g24 gw hh HG23 HO23 HMk a0 a1 a2 a3 a4 d0 d1 d2 d3 d4 hW23 hab
  obtain ⟨ea, hea⟩ : ∃ ea, makeErr (altOf p q) = ea := ⟨_, rfl⟩
  rw [hea] at HEa HLa HV24 ⊢
  clear hea
  go_upto_region 20 with (refine wpList_store_aut (b := b24) rfl rfl rfl rfl HZ24.out zAut_size HS24.out.1 HS24.out.2 ?_)
  try rw [hW24]
  clear hb24 hW24 HZ24
  rcases HEa.out with h0 | h4
  · subst h0
    obtain ⟨n24, hn24⟩ := HV24.out rfl
    have HSa := hidd (same_val HO24.out.2 hn24.2 (HLa.out rfl))
    have HN24 := hidd hn24
    clear hn24
    go_wp2_with fail
    refine oper_load_autG (b := b32) rfl rfl HO24.out.1 HO24.out.2.size ?_
    go_wp2_with fail
    refine oper_load_autG (b := b24) rfl rfl HN24.out.1 HN24.out.2.size ?_
    go_wp2_with fail
    refine HSa.out.mono ?_; rintro e w25 ⟨rfl, g25⟩
    have HG25 := hidd (HG24.out.trans g25)
    clear g25
    go_wp2_with fail
    go_ret
    exact ⟨rfl, HG25.out⟩
  · subst h4
    go_wp2_with fail
    go_ret
    exact ⟨rfl, HG24.out⟩
end Go.Proofs.YtkkdpafkafjfgaaDoor
