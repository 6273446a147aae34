/- Same: the document's, at one automaton. -/
import Derived.Test.YtkkdpafkafjfgaaDoorMkPScInv
import Derived.ChangeKeysEq
namespace Go.Proofs.YtkkdpafkafjfgaaDoor
open Go.RowKit RR
set_option linter.unusedVariables false
set_option linter.unusedSimpArgs false
theorem eqItems_same {xs : Array Value} (h : ∀ i, i < 256 → ∃ z, xs[i]? = some (.int .i64 z)) (d : Nat) (w : World) : ∀ (l : List Nat), (∀ i ∈ l, i < 256) → (Op.eqItems (d + 1) 3 1 xs xs l).run Tryd.prog w = .ok true w
  | [], _ => by simp [Op.eqItems]
  | i :: l, hl => by
    obtain ⟨z, hz⟩ := h i (hl i (by simp))
    have hp : (part 3 xs (i * 1)).run Tryd.prog w = .ok (.int .i64 z) w := by
      have hagg := agg_int w
      simp [part, Sem.run_bind, hagg, size_of info_int w, hz]
    have he := run_equalIn_int (P := Tryd.prog) w d 3 .i64 .i64 z z Tryd.underlying3
    simp only [Op.eqItems, Sem.run_bind, hp, he, Result.andThen_ok, beq_self_eq_true]
    simpa using eqItems_same h d w l fun j hj => hl j (by simp [hj])
theorem neq_row {xs : Array Value} (h : ∀ i, i < 256 → ∃ z, xs[i]? = some (.int .i64 z)) (w : World) : (binOp .neq 26 (.agg xs) (.agg xs)).run Tryd.prog w = .ok (.bool false) w := by
  cases hi : Tryd.prog.info? 3 with
  | none => have := info_int; rw [hi] at this; cases this
  | some i =>
    rw [run_neq_struct, show (10000 : Nat) = 9999 + 1 from rfl, run_equalIn_array w 9999 xs xs Tryd.underlying26 hi]
    have hc : Tryd.prog.cellsOf 3 = 1 := by kernel_rfl
    rw [hc, eqItems_same h 9998 w _ fun j hj => List.mem_range.1 hj]
    rfl
theorem guard_row (x y : Operand) (xs ys : Array Value) (w : World) : (eqGuard .neq 26 x y (.agg xs) (.agg ys)).run Tryd.prog w = .ok () w := run_eqGuard_agg w .neq _ x y xs ys (by kernel_rfl)
section
variable {P : Program} {w0 : World} {ops : Array Oper} {Q : Exit → Act → World → Prop} {shs : List Sh} {a0 : Act} {A : Array Edge} {i : Nat} {d : Option Tmp} {ty : TypeId} {pos : String} {G : Option (Nat × Bool)}
theorem sg_len {t : TypeId} {p : Option Addr} {n c : Nat} {x : Operand} (ht : P.underlying t = some (.slice (P.elem t))) (hg : guardIs ops shs A G = some true) (hx : opSh ops shs A a0 x = .val (.slice p n c)) (hs : shs.getD i (.fact fun _ _ => True) = .val (.int .i64 (n : Nat))) :
    StepOk Grew P ops Q (shF shs) a0 w0 i ⟨d, .call { callee := .builtin .len, args := #[x], argTypes := #[t] }, ty, pos, A, G⟩ :=
  st_run hg fun a w E K hK => by
    have hv : a.eval x = .slice p n c := E.opv hx
    have := hK (.int .i64 (n : Nat)) w (Grew.refl w) (by unfold shF; rw [hs]; rfl)
    unfold Oper.wp execOp
    simpa [resolve, invoke, builtin, hv, Oper.upon, goInt, run_len_slice w t ty p n c ht] using this
end
theorem bool_neq (b : Bool) {x y : Operand} (w : World) : (do eqGuard .neq 4 x y (.bool b) (.bool b); binOp .neq 4 (.bool b) (.bool b) : Sem Value).run Tryd.prog w = .ok (.bool false) w := by
  have h := run_neq_bool (P := Tryd.prog) w 4 b b Tryd.underlying4
  rw [Sem.run_bind]
  simp [eqGuard, h]
theorem int_neq (n : Int) {x y : Operand} (w : World) : (do eqGuard .neq 3 x y (.int .i64 n) (.int .i64 n); binOp .neq 3 (.int .i64 n) (.int .i64 n) : Sem Value).run Tryd.prog w = .ok (.bool false) w := by
  simp [eqGuard, binOp, Op.intCmp]
set_option maxRecDepth 100000 in
theorem Same_eq (A : Aut) (na ea na' ea' : Option Addr) (nc ec nc' ec' : Nat) (w : World) (h : AutAt w A na ea) (h' : AutAt w A na' ea') (hl : A.ends.length = A.next.length) :
    Calls Tryd.prog 12 #[.agg (autB A na nc ea ec), .agg (autB A na' nc' ea' ec')] w fun e w' => e = .returned (.bool true) ∧ Grew w w' := by
  obtain ⟨t1, ht1⟩ : ∃ t1, w.heap.size = t1 := ⟨_, rfl⟩
  obtain ⟨W1, hW1⟩ : ∃ W1, w.alloc (.cells (autB A na nc ea ec) 30) = W1 := ⟨_, rfl⟩
  have g1 : Grew w W1 := by rw [← hW1]; exact (Grew.refl w).alloc _
  have x1 : Box W1 t1 A na nc ea ec := by rw [← hW1, ← ht1]; exact box_new w A na nc ea ec _
  have s1 : W1.heap.size = t1 + 1 := by rw [← hW1, World.size_alloc, ht1]
  obtain ⟨W, hW⟩ : ∃ W, W1.alloc (.cells (autB A na' nc' ea' ec') 30) = W := ⟨_, rfl⟩
  have g2 : Grew W1 W := by rw [← hW]; exact (Grew.refl W1).alloc _
  have x2 : Box W (t1 + 1) A na' nc' ea' ec' := by rw [← hW, ← s1]; exact box_new W1 A na' nc' ea' ec' _
  have HG := hidd (g1.trans g2)
  have HB := hidd (x1.kept g2)
  have HB' := hidd x2
  have HA := hidd (h.kept HG.out)
  have HA' := hidd (h'.kept HG.out)
  have c1 := HB.out.nx
  have c2 := HB.out.en
  have d1 := HB'.out.nx
  have d2 := HB'.out.en
  have hcl : ∀ i, i < 256 → ∃ z, (clsB A.cls)[i]? = some (.int .i64 z) := fun i hi => ⟨_, clsB_get _ hi⟩
  obtain ⟨cv, hcv⟩ : ∃ cv, clsB A.cls = cv := ⟨_, rfl⟩
  rw [hcv] at hcl
  have HCv := hidd hcv
  have hne := neq_row hcl
  have hgu := fun x y w => guard_row x y cv cv w
  have hWx : (w.alloc (.cells (autB A na nc ea ec) 30)).alloc (.cells (autB A na' nc' ea' ec') 30) = W := by rw [hW1, hW]
  subst ht1
  clear hW1 hW s1 x1 x2 g1 g2 h h' hcl hcv
  generalize hav : autB A na nc ea ec = av at *
  generalize hbv : autB A na' nc' ea' ec' = bv at *
  clear hav hbv
  obtain ⟨n, hn⟩ : ∃ n, A.next.length = n := ⟨_, rfl⟩
  rw [hn] at c1 d1 hl
  rw [hl] at c2 d2
  have HN := hidd (And.intro hn hl)
  have h9 : n ≤ maxLen := by rw [← hn]; exact HA.out.nlen
  unfold maxLen at h9
  clear hn hl
  go_enter Tryd.func12, Tryd.ntmps12
  go_wp2_with (first | (refine wpList_load_cls (b := w.heap.size) rfl rfl rfl HB.out.cl ?_; rw [HCv.out]) | (refine wpList_load_cls (b := w.heap.size + 1) rfl rfl rfl HB'.out.cl ?_; rw [HCv.out]))
  clear hWx hne hgu c1 c2 d1 d2
  go_loopw [33] (fun s33 wr => ∃ i : Nat, s33 = .int .i64 i ∧ i ≤ n ∧ Hid (Grew W wr)) (fun s33 _ => n - (intOf s33).toNat)
  case atStart => exact ⟨0, rfl, by omega, Grew.refl W⟩
  case round =>
    obtain ⟨i, rfl, hi, KG⟩ := hrel
    by_cases hil : i < n
    · have ki : decide ((i : Int) < (n : Int)) = true := decide_eq_true (by omega)
      have hrA := HA.out.kept KG.out
      have hrA' := HA'.out.kept KG.out
      have hrB := HB.out.kept KG.out
      have hrB' := HB'.out.kept KG.out
      have c1 := hrB.nx
      have c2 := hrB.en
      have d1 := hrB'.nx
      have d2 := hrB'.en
      rw [HN.out.1] at c1 d1
      rw [HN.out.2] at c2 d2
      obtain ⟨eb, eo, e1, he⟩ := hrA.ends.get (by rw [HN.out.2]; omega)
      obtain ⟨eb', eo', e2, he'⟩ := hrA'.ends.get (by rw [HN.out.2]; omega)
      have c3 := he i (by rw [HN.out.2]; exact hil)
      have d3 := he' i (by rw [HN.out.2]; exact hil)
      obtain ⟨ra, rc, hs, hs2⟩ := hrA.next
      obtain ⟨ra', rc', hs', hs2'⟩ := hrA'.next
      obtain ⟨nb, no, e3, hn⟩ := hs.get (by rw [HN.out.1]; omega)
      obtain ⟨nb', no', e4, hn'⟩ := hs'.get (by rw [HN.out.1]; omega)
      have c4 := hn i (by rw [HN.out.1]; exact hil)
      have d4 := hn' i (by rw [HN.out.1]; exact hil)
      have q1 := hs2 i (by rw [HN.out.1]; exact hil)
      have q2 := hs2' i (by rw [HN.out.1]; exact hil)
      have h9r := hrA.rlen i (by rw [HN.out.1]; exact hil)
      rw [e1] at c2
      rw [e2] at d2
      rw [e3] at c1
      rw [e4] at d1
      obtain ⟨x, hx⟩ : ∃ x, A.ends.getD i false = x := ⟨_, rfl⟩
      rw [hx] at c3 d3
      obtain ⟨r, hr⟩ : ∃ r, A.next.getD i [] = r := ⟨_, rfl⟩
      rw [hr] at c4 d4 q1 q2 h9r
      obtain ⟨va, hva⟩ : ∃ va, ra i = va := ⟨_, rfl⟩
      obtain ⟨vb, hvb⟩ : ∃ vb, ra' i = vb := ⟨_, rfl⟩
      rw [hva] at c4 q1
      rw [hvb] at d4 q2
      obtain ⟨m, hm⟩ : ∃ m, r.length = m := ⟨_, rfl⟩
      rw [hm] at c4 d4 q1 q2 h9r
      have HQ := hidd (And.intro q1 q2)
      unfold maxLen at h9r
      have HGr := hidd KG.out
      have hk0 : wr.cell? ⟨w.heap.size, 256, none⟩ = some (.slice (some ⟨nb, no, none⟩) n nc) ∧ wr.cell? ⟨w.heap.size, 257, none⟩ = some (.slice (some ⟨eb, eo, none⟩) n ec) ∧ wr.cell? ⟨w.heap.size + 1, 256, none⟩ = some (.slice (some ⟨nb', no', none⟩) n nc') ∧ wr.cell? ⟨w.heap.size + 1, 257, none⟩ = some (.slice (some ⟨eb', eo', none⟩) n ec') ∧ wr.cell? ⟨eb, eo + i, none⟩ = some (.bool x) ∧ wr.cell? ⟨eb', eo' + i, none⟩ = some (.bool x) ∧ wr.cell? ⟨nb, no + i, none⟩ = some (.slice va m (rc i)) ∧ wr.cell? ⟨nb', no' + i, none⟩ = some (.slice vb m (rc' i)) := ⟨c1, c2, d1, d2, c3, d3, c4, d4⟩
      have HK := hidd hk0
      clear c1 c2 d1 d2 c3 d3 c4 d4 he he' hn hn' hs hs' hs2 hs2' q1 q2 e1 e2 e3 e4 hva hvb hx hrA hrA' hrB hrB' hr hm KG
      go_wp2_with fail
      obtain ⟨k1, k2, k3, k4, k5, k6, k7, k8⟩ := hk0
      refine frameR [36, 37, 38, 39, 40, 41, 42, 43, 44, 45, 46, 47, 48, 49, 50, 51, 52, 53, 54, 55, 56, 57, 58, 59, 60, 61] mixed drew_grew grew_tr
        [.val (.pointer (some ⟨w.heap.size, 257, none⟩)), .val (.slice (some ⟨eb, eo, none⟩) n ec), .val (.int .i64 (i : Nat)), .val (.pointer (some ⟨eb, eo + i, none⟩)), .val (.bool x),
         .val (.pointer (some ⟨w.heap.size + 1, 257, none⟩)), .val (.slice (some ⟨eb', eo', none⟩) n ec'), .val (.int .i64 (i : Nat)), .val (.pointer (some ⟨eb', eo' + i, none⟩)), .val (.bool x), .val (.bool false), .val (.bool false),
         .val (.pointer (some ⟨w.heap.size, 256, none⟩)), .val (.slice (some ⟨nb, no, none⟩) n nc), .val (.int .i64 (i : Nat)), .val (.pointer (some ⟨nb, no + i, none⟩)), .val (.slice va m (rc i)), .val (.int .i64 (m : Nat)),
         .val (.pointer (some ⟨w.heap.size + 1, 256, none⟩)), .val (.slice (some ⟨nb', no', none⟩) n nc'), .val (.int .i64 (i : Nat)), .val (.pointer (some ⟨nb', no' + i, none⟩)), .val (.slice vb m (rc' i)), .val (.int .i64 (m : Nat)), .val (.bool false), .val (.bool false)]
        (vals_mono ?_) (by kernel_rfl) (by kernel_rfl)
        ⟨sg_field (field_aut2 w.heap.size) (by kernel_rfl) rfl rfl, sg_load (p := ⟨w.heap.size, 257, none⟩) (fun wx g => load_one agg_boolsl (g.keeps k2)) (by kernel_rfl) rfl rfl, st_move Grew.refl (by kernel_rfl) rfl, sg_index ?i1 (by kernel_rfl) rfl rfl rfl, sg_load (p := ⟨eb, eo + i, none⟩) (fun wx g => load_one agg_bool (g.keeps k5)) (by kernel_rfl) rfl rfl,
         sg_field (field_aut2 (w.heap.size + 1)) (by kernel_rfl) rfl rfl, sg_load (p := ⟨w.heap.size + 1, 257, none⟩) (fun wx g => load_one agg_boolsl (g.keeps k4)) (by kernel_rfl) rfl rfl, st_move Grew.refl (by kernel_rfl) rfl, sg_index ?i2 (by kernel_rfl) rfl rfl rfl, sg_load (p := ⟨eb', eo' + i, none⟩) (fun wx g => load_one agg_bool (g.keeps k6)) (by kernel_rfl) rfl rfl,
         st_num Grew.refl (bool_neq x) (by kernel_rfl) rfl rfl rfl, st_move Grew.refl (by kernel_rfl) rfl,
         sg_field (field_aut1 w.heap.size) (by kernel_rfl) rfl rfl, sg_load (p := ⟨w.heap.size, 256, none⟩) (fun wx g => load_one agg_rowsl (g.keeps k1)) (by kernel_rfl) rfl rfl, st_move Grew.refl (by kernel_rfl) rfl, sg_index ?i3 (by kernel_rfl) rfl rfl rfl, sg_load (p := ⟨nb, no + i, none⟩) (fun wx g => load_one agg_ints (g.keeps k7)) (by kernel_rfl) rfl rfl, sg_len (by kernel_rfl) (by kernel_rfl) rfl rfl,
         sg_field (field_aut1 (w.heap.size + 1)) (by kernel_rfl) rfl rfl, sg_load (p := ⟨w.heap.size + 1, 256, none⟩) (fun wx g => load_one agg_rowsl (g.keeps k3)) (by kernel_rfl) rfl rfl, st_move Grew.refl (by kernel_rfl) rfl, sg_index ?i4 (by kernel_rfl) rfl rfl rfl, sg_load (p := ⟨nb', no' + i, none⟩) (fun wx g => load_one agg_ints (g.keeps k8)) (by kernel_rfl) rfl rfl, sg_len (by kernel_rfl) (by kernel_rfl) rfl rfl,
         st_num Grew.refl (int_neq m) (by kernel_rfl) rfl rfl rfl, st_pickF Grew.refl (by kernel_rfl) rfl rfl, trivial⟩ ?_
      case i1 => intro wx; have := index_sl (sz := 1) Tryd.underlying28 (by kernel_rfl) (fun w => size_of (by kernel_rfl) w) (b := eb) (o := eo) (c := ec) hil wx; rwa [Nat.mul_one] at this
      case i2 => intro wx; have := index_sl (sz := 1) Tryd.underlying28 (by kernel_rfl) (fun w => size_of (by kernel_rfl) w) (b := eb') (o := eo') (c := ec') hil wx; rwa [Nat.mul_one] at this
      case i3 => intro wx; have := index_sl (sz := 1) Tryd.underlying27 (by kernel_rfl) (fun w => size_of (by kernel_rfl) w) (b := nb) (o := no) (c := nc) hil wx; rwa [Nat.mul_one] at this
      case i4 => intro wx; have := index_sl (sz := 1) Tryd.underlying27 (by kernel_rfl) (fun w => size_of (by kernel_rfl) w) (b := nb') (o := no') (c := nc') hil wx; rwa [Nat.mul_one] at this
      · intro sx hs
        simp only [List.mem_cons, List.not_mem_nil, or_false] at hs
        rcases hs with rfl | rfl | rfl | rfl | rfl | rfl | rfl | rfl | rfl | rfl | rfl | rfl | rfl | rfl | rfl | rfl | rfl | rfl | rfl | rfl | rfl | rfl | rfl | rfl | rfl | rfl <;> exact ⟨_, rfl⟩
      intro xs w2 hg8 ht
      have h61 : xs 61 = .bool false := ht 25 _ 61 rfl rfl
      simp only [List.foldl_cons, List.foldl_nil, List.setIfInBounds_toArray, List.set_cons_succ, List.set_cons_zero]
      rw [h61]
      have HG2 : Hid (Grew W w2) := HGr.out.trans hg8
      have HGq : Hid (Grew wr w2) := hg8
      have HK2 := hidd (And.intro (hg8.keeps k1) (And.intro (hg8.keeps k3) (And.intro (hg8.keeps k7) (hg8.keeps k8))))
      clear k1 k2 k3 k4 k5 k6 k7 k8 ht h61 hg8 HGr HK
      obtain ⟨k1, k3, k7, k8⟩ := HK2.out
      go_wp2_with fail
      clear k1 k3 k7 k8
      go_loopw [68] (fun s68 wr => ∃ k : Nat, s68 = .int .i64 k ∧ k ≤ m ∧ Hid (Grew w2 wr)) (fun s68 _ => m - (intOf s68).toNat)
      case atStart => exact ⟨0, rfl, by omega, Grew.refl w2⟩
      case round =>
        obtain ⟨k, rfl, hk, JG⟩ := hrel
        by_cases hkl : k < m
        · have kk : decide ((k : Int) < (m : Int)) = true := decide_eq_true (by omega)
          obtain ⟨k1, k3, k7, k8⟩ := HK2.out
          obtain ⟨rb, ro, rfl, hc⟩ := HQ.out.1.get (by omega)
          obtain ⟨rb', ro', rfl, hc'⟩ := HQ.out.2.get (by omega)
          have hg := HG2.out.trans JG.out
          have z1 := JG.out.keeps (HGq.out.keeps (hc k hkl))
          have z2 := JG.out.keeps (HGq.out.keeps (hc' k hkl))
          obtain ⟨z, hz⟩ : ∃ z, r.getD k 0 = z := ⟨_, rfl⟩
          rw [hz] at z1 z2
          have j1 := JG.out.keeps k1
          have j3 := JG.out.keeps k3
          have j7 := JG.out.keeps k7
          have j8 := JG.out.keeps k8
          clear k1 k3 k7 k8 hc hc' hg hz
          go_wp2_with fail
          refine frameR [71, 72, 73, 74, 75, 76, 77, 78, 79, 80, 81, 82, 83, 84, 85, 86, 87] mixed drew_grew grew_tr
            [.val (.pointer (some ⟨w.heap.size, 256, none⟩)), .val (.slice (some ⟨nb, no, none⟩) n nc), .val (.int .i64 (i : Nat)), .val (.pointer (some ⟨nb, no + i, none⟩)), .val (.slice (some ⟨rb, ro, none⟩) m (rc i)), .val (.int .i64 (k : Nat)), .val (.pointer (some ⟨rb, ro + k, none⟩)), .val (.int .i64 z),
             .val (.pointer (some ⟨w.heap.size + 1, 256, none⟩)), .val (.slice (some ⟨nb', no', none⟩) n nc'), .val (.int .i64 (i : Nat)), .val (.pointer (some ⟨nb', no' + i, none⟩)), .val (.slice (some ⟨rb', ro', none⟩) m (rc' i)), .val (.int .i64 (k : Nat)), .val (.pointer (some ⟨rb', ro' + k, none⟩)), .val (.int .i64 z), .val (.bool false)]
            (vals_mono ?_) (by kernel_rfl) (by kernel_rfl)
            ⟨sg_field (field_aut1 w.heap.size) (by kernel_rfl) rfl rfl, sg_load (p := ⟨w.heap.size, 256, none⟩) (fun wx g => load_one agg_rowsl (g.keeps j1)) (by kernel_rfl) rfl rfl, st_move Grew.refl (by kernel_rfl) rfl, sg_index ?i3 (by kernel_rfl) rfl rfl rfl, sg_load (p := ⟨nb, no + i, none⟩) (fun wx g => load_one agg_ints (g.keeps j7)) (by kernel_rfl) rfl rfl, st_move Grew.refl (by kernel_rfl) rfl, sg_index ?i5 (by kernel_rfl) rfl rfl rfl, sg_load (p := ⟨rb, ro + k, none⟩) (fun wx g => load_one agg_int (g.keeps z1)) (by kernel_rfl) rfl rfl,
             sg_field (field_aut1 (w.heap.size + 1)) (by kernel_rfl) rfl rfl, sg_load (p := ⟨w.heap.size + 1, 256, none⟩) (fun wx g => load_one agg_rowsl (g.keeps j3)) (by kernel_rfl) rfl rfl, st_move Grew.refl (by kernel_rfl) rfl, sg_index ?i4 (by kernel_rfl) rfl rfl rfl, sg_load (p := ⟨nb', no' + i, none⟩) (fun wx g => load_one agg_ints (g.keeps j8)) (by kernel_rfl) rfl rfl, st_move Grew.refl (by kernel_rfl) rfl, sg_index ?i6 (by kernel_rfl) rfl rfl rfl, sg_load (p := ⟨rb', ro' + k, none⟩) (fun wx g => load_one agg_int (g.keeps z2)) (by kernel_rfl) rfl rfl,
             st_num Grew.refl (int_neq z) (by kernel_rfl) rfl rfl rfl, trivial⟩ ?_
          case i3 => intro wx; have := index_sl (sz := 1) Tryd.underlying27 (by kernel_rfl) (fun w => size_of (by kernel_rfl) w) (b := nb) (o := no) (c := nc) hil wx; rwa [Nat.mul_one] at this
          case i4 => intro wx; have := index_sl (sz := 1) Tryd.underlying27 (by kernel_rfl) (fun w => size_of (by kernel_rfl) w) (b := nb') (o := no') (c := nc') hil wx; rwa [Nat.mul_one] at this
          case i5 => intro wx; have := index_sl (sz := 1) Tryd.underlying37 (by kernel_rfl) (fun w => size_of (by kernel_rfl) w) (b := rb) (o := ro) (c := rc i) hkl wx; rwa [Nat.mul_one] at this
          case i6 => intro wx; have := index_sl (sz := 1) Tryd.underlying37 (by kernel_rfl) (fun w => size_of (by kernel_rfl) w) (b := rb') (o := ro') (c := rc' i) hkl wx; rwa [Nat.mul_one] at this
          · intro sx hs
            simp only [List.mem_cons, List.not_mem_nil, or_false] at hs
            rcases hs with rfl | rfl | rfl | rfl | rfl | rfl | rfl | rfl | rfl | rfl | rfl | rfl | rfl | rfl | rfl | rfl | rfl <;> exact ⟨_, rfl⟩
          intro xs w3 hg8 ht
          have h87 : xs 87 = .bool false := ht 16 _ 87 rfl rfl
          simp only [List.foldl_cons, List.foldl_nil, List.setIfInBounds_toArray, List.set_cons_succ, List.set_cons_zero]
          rw [h87]
          have HJ : Hid (Grew w2 w3) := JG.out.trans hg8
          clear j1 j3 j7 j8 z1 z2 ht h87 hg8
          go_wp2_with fail
          exact ⟨⟨k + 1, by simp, by omega, HJ.out⟩, by simp [intOf]; omega⟩
        · have hkm : m = k := by omega
          subst hkm
          have kk : decide ((m : Int) < (m : Int)) = false := decide_eq_false (by omega)
          have HJ : Hid (Grew W wr) := HG2.out.trans JG.out
          go_wp2_with fail
          exact ⟨⟨i + 1, by simp, by omega, HJ.out⟩, by simp [intOf]; omega⟩
    · have hie : n = i := by omega
      subst hie
      have ki : decide ((n : Int) < (n : Int)) = false := decide_eq_false (by omega)
      have HJ : Hid (Grew w wr) := HG.out.trans KG.out
      go_wp2_with fail
      go_ret
      exact ⟨rfl, HJ.out⟩
end Go.Proofs.YtkkdpafkafjfgaaDoor
