/- The functions that explore is given. -/
import Derived.Test.YtkkdpafkafjfgaaTwAuLs
namespace Go.Proofs.Ytkkdpafkafjfgaa
open Go.RowKit RR
set_option linter.unusedVariables false
set_option maxRecDepth 100000
set_option linter.unusedSimpArgs false
theorem Both_one (x y : Bool) (w : World) : Calls Try.prog 25 #[.bool x, .bool y] w fun e w' => e = .returned (.bool (x && y)) ∧ Grew w w' := by
  cases x <;> cases y <;>
  · go_enter Try.func25, Try.ntmps25
    go_wp2_with fail
    go_ret
    exact ⟨rfl, Grew.refl _⟩
theorem Either_one (x y : Bool) (w : World) : Calls Try.prog 28 #[.bool x, .bool y] w fun e w' => e = .returned (.bool (x || y)) ∧ Grew w w' := by
  cases x <;> cases y <;>
  · go_enter Try.func28, Try.ntmps28
    go_wp2_with fail
    go_ret
    exact ⟨rfl, Grew.refl _⟩
theorem NotSt_any (A : Aut) (na ea : Option Addr) (nc ec : Nat) (b s c : Nat) (w : World) (h : Held w b A na nc ea ec) (hr : RightA A) (hs : s < A.next.length) (hc : c < 256) : Calls Try.prog 30 #[.int .i64 (s : Nat), .int .u8 (c : Nat), .pointer (some ⟨b, 0, none⟩)] w fun e w' => e = .returned (.int .i64 (stepA A s c : Nat)) ∧ Grew w w' := by
  have HS := hidd (Step_any A na ea nc ec b s c w h hr hs hc)
  clear h hr hs hc
  obtain ⟨x, hx⟩ : ∃ x, stepA A s c = x := ⟨_, rfl⟩
  rw [hx] at HS ⊢
  clear hx
  go_enter Try.func30, Try.ntmps30
  go_wp2_with fail
  refine HS.out.mono ?_; rintro e w1 ⟨rfl, g1⟩
  have HG := hidd g1
  clear g1
  go_wp2_with fail
  go_ret
  exact ⟨rfl, HG.out⟩
theorem NotEn_any (A : Aut) (na ea : Option Addr) (nc ec : Nat) (b s : Nat) (w : World) (h : Held w b A na nc ea ec) (hr : RightA A) (hs : s < A.next.length) : Calls Try.prog 31 #[.int .i64 (s : Nat), .pointer (some ⟨b, 0, none⟩)] w fun e w' => e = .returned (.bool (!A.ends.getD s false)) ∧ Grew w w' := by
  have he := h.box.en
  have hel := hr.ne
  obtain ⟨eb, eo, rfl, hce⟩ := h.rows.ends.get (by rw [hel]; have := hr.n0; omega)
  have hcs := hce s (by rw [hel]; exact hs)
  have hsl : s < A.ends.length := by rw [hel]; exact hs
  have h9 : A.ends.length ≤ 8192 := by rw [hel]; exact hr.n1
  obtain ⟨n, hn⟩ : ∃ n, A.ends.length = n := ⟨_, rfl⟩
  obtain ⟨x, hx⟩ : ∃ x, A.ends.getD s false = x := ⟨_, rfl⟩
  rw [hn] at he hsl h9
  rw [hx] at hcs ⊢
  clear hx hce hel hn hr hs h
  go_enter Try.func31, Try.ntmps31
  go_wp2_with fail
  go_ret
  exact ⟨rfl, Grew.refl _⟩
section
variable {P : Program} {wb w0 : World} {g : Nat} {Fin : World → Prop} {mk : List Nat} {is : Nat} {ops : Array Oper} {Q : Exit → Act → World → Prop} {shs : List Sh} {a0 : Act} {A : Array Edge} {i : Nat} {d : Option Tmp} {op : Op} {ty : TypeId} {pos : String} {G : Option (Nat × Bool)}
theorem hj_call3 {f : FuncId} {x y z : Operand} {u1 u2 u3 v : Value} {ats : Array TypeId} (hf : isGo P f = true) (hi : i ∈ mk) (his : i ≠ is)
    (hc : ∀ w, Grew wb w → Calls P f #[u1, u2, u3] w fun e w' => e = .returned v ∧ Grew w w')
    (hg : guardIs ops shs A G = some true) (hx : opSh ops shs A a0 x = .val u1) (hy : opSh ops shs A a0 y = .val u2) (hz : opSh ops shs A a0 z = .val u3) (hs : shs.getD i (.fact fun _ _ => True) = .val v) :
    StepJ (StJ wb Fin mk is) (NoRl g) P ops Q (shF shs) a0 w0 i ⟨d, .call { callee := .value (.func f), args := #[x, y, z], argTypes := ats }, ty, pos, A, G⟩ := by
  intro listed a w hls hlf hdep hsz hJ hw hsm hdp K hK
  have E : RR.Env (NoRl g) ops shs a0 w0 A a w := ⟨hw, hsm, hdp⟩
  rw [if_pos (E.guard hg)]
  unfold Oper.wp
  rw [execOp_call_go, run_go hf, Array.append_empty, Array.empty_append]
  have e : (#[x, y, z] : Array Operand).map a.eval = #[u1, u2, u3] := by
    have h1 : a.eval x = u1 := E.opv hx
    have h2 : a.eval y = u2 := E.opv hy
    have h3 : a.eval z = u3 := E.opv hz
    simp [h1, h2, h3]
  show Calls _ _ _ _ _
  rw [e]
  refine (hc w (hJ.p0 (hJ.ahead hi hlf))).mono fun e w' ⟨he, hgr⟩ => ?_
  subst he
  exact hK v w' (NoRl.of_grew hgr) (by unfold shF; rw [hs]; rfl) (hJ.step hi his hlf hgr v)
end
theorem index_two {b : Nat} {i : Nat} (h : i < 2) (w : World) : (Instr.indexAt 75 (.pointer (some ⟨b, 0, none⟩)) (.int .i64 (i : Nat))).run Try.prog w = .ok (.pointer (some ⟨b, i, none⟩)) w := by
  have hl : Try.prog.arrayLen 75 = 2 := by kernel_rfl
  have hu : Try.prog.elem 75 = 3 := by kernel_rfl
  have := run_indexAt_array (P := Try.prog) (w := w) 75 ⟨b, 0, none⟩ .i64 (i : Int) (by rw [hl, hu]; exact Try.underlying75)
  rw [hl, if_pos ⟨by omega, by omega⟩, hu] at this
  simp only [this, size_of info_int w, Result.andThen_ok, Int.toNat_natCast, addr_addV, Nat.mul_one, Nat.zero_add]
theorem TwoSt_any (A B : Aut) (na ea na' ea' : Option Addr) (nc ec nc' ec' : Nat) (b b' s s' c : Nat) (w : World) (h : Held w b A na nc ea ec) (h' : Held w b' B na' nc' ea' ec') (hr : RightA A) (hr' : RightA B) (hs : s < A.next.length) (hs' : s' < B.next.length) (hc : c < 256) :
    Calls Try.prog 35 #[.agg #[.int .i64 (s : Nat), .int .i64 (s' : Nat)], .int .u8 (c : Nat), .pointer (some ⟨b, 0, none⟩), .pointer (some ⟨b', 0, none⟩)] w fun e w' => e = .returned (twoV (stepA A s c, stepA B s' c)) ∧ Grew w w' := by
  have H1 : Hid (∀ w1, Grew w w1 → Calls Try.prog 23 #[.pointer (some ⟨b, 0, none⟩), .int .i64 (s : Nat), .int .u8 (c : Nat)] w1 fun e w' => e = .returned (.int .i64 (stepA A s c : Nat)) ∧ Grew w1 w') := fun w1 g => Step_any A na ea nc ec b s c w1 (h.kept g) hr hs hc
  have H2 : Hid (∀ w1, Grew w w1 → Calls Try.prog 23 #[.pointer (some ⟨b', 0, none⟩), .int .i64 (s' : Nat), .int .u8 (c : Nat)] w1 fun e w' => e = .returned (.int .i64 (stepA B s' c : Nat)) ∧ Grew w1 w') := fun w1 g => Step_any B na' ea' nc' ec' b' s' c w1 (h'.kept g) hr' hs' hc
  clear h h' hr hr' hs hs' hc
  obtain ⟨x, hx⟩ : ∃ x, stepA A s c = x := ⟨_, rfl⟩
  obtain ⟨y, hy⟩ : ∃ y, stepA B s' c = y := ⟨_, rfl⟩
  rw [hx] at H1 ⊢
  rw [hy] at H2 ⊢
  clear hx hy
  go_enter Try.func35, Try.ntmps35
  go_wp2_with fail
  obtain ⟨t1, ht1⟩ : ∃ t1, w.heap.size = t1 := ⟨_, rfl⟩
  have hG : Grew w ((w.alloc (.cells #[.int .i64 (s : Nat), .int .i64 (s' : Nat)] 75)).alloc (.cells #[.int .i64 0, .int .i64 0] 75)) := ((Grew.refl w).alloc _).alloc _
  have hb1 : ((w.alloc (.cells #[.int .i64 (s : Nat), .int .i64 (s' : Nat)] 75)).alloc (.cells #[.int .i64 0, .int .i64 0] 75)).heap[t1]? = some (.cells #[.int .i64 (s : Nat), .int .i64 (s' : Nat)] 75 (0, 0)) := by
    rw [← ht1]; exact heap_kept ((Grew.refl _).alloc _) (heap_alloc_new w _)
  have hb2 : ((w.alloc (.cells #[.int .i64 (s : Nat), .int .i64 (s' : Nat)] 75)).alloc (.cells #[.int .i64 0, .int .i64 0] 75)).heap[t1 + 1]? = some (.cells #[.int .i64 0, .int .i64 0] 75 (0, 0)) := by
    rw [← ht1]; exact heap_alloc2_new w _ _
  rw [ht1]
  generalize (w.alloc (.cells #[.int .i64 (s : Nat), .int .i64 (s' : Nat)] 75)).alloc (.cells #[.int .i64 0, .int .i64 0] 75) = W at hG hb1 hb2 ⊢
  obtain ⟨⟨c0, c1⟩, _⟩ := two_cells (w := W.drew) hb1
  refine RR.region_frame (J := StJ W.drew (fun w' => ∃ w1, Grew W.drew w1 ∧ w' = w1.setRow (t1 + 1) #[.int .i64 (x : Nat), .int .i64 (y : Nat)]) [0, 1, 2, 3, 4, 5, 6, 7, 8] 9) (Rl := NoRl (t1 + 1)) [7, 8, 9, 10, 11, 12, 13, 14, 15] mixed (NoRl.drew _) NoRl.trans
    [.val (.pointer (some ⟨t1, 0, none⟩)), .val (.int .i64 (s : Nat)), .val (.int .u8 (c : Nat)), .val (.int .i64 (x : Nat)), .val (.pointer (some ⟨t1, 1, none⟩)), .val (.int .i64 (s' : Nat)), .val (.int .u8 (c : Nat)), .val (.int .i64 (y : Nat)), .val (.agg #[.int .i64 (x : Nat), .int .i64 (y : Nat)]), .fact fun _ _ => True]
    (st_start _ _) (no_mono ?_) (by kernel_rfl) (by kernel_rfl)
    ⟨hj_index (fun w => index_two (i := 0) (by omega) w) (by decide) (by decide) (by kernel_rfl) rfl rfl rfl, hj_load1 (wb := W.drew) (p := ⟨t1, 0, none⟩) agg_int c0 (by decide) (by decide) (by kernel_rfl) rfl rfl,
     hj_move (by decide) (by decide) (by kernel_rfl) rfl rfl, hj_call3 (by kernel_rfl) (by decide) (by decide) (fun w1 g => H1.out w1 (hG.trans ((drew_grew W).trans g))) (by kernel_rfl) rfl rfl rfl rfl,
     hj_index (fun w => index_two (i := 1) (by omega) w) (by decide) (by decide) (by kernel_rfl) rfl rfl rfl, hj_load1 (wb := W.drew) (p := ⟨t1, 1, none⟩) agg_int c1 (by decide) (by decide) (by kernel_rfl) rfl rfl,
     hj_move (by decide) (by decide) (by kernel_rfl) rfl rfl, hj_call3 (by kernel_rfl) (by decide) (by decide) (fun w1 g => H2.out w1 (hG.trans ((drew_grew W).trans g))) (by kernel_rfl) rfl rfl rfl rfl,
     hj_pure (by decide) (by decide) ?bd (by kernel_rfl) rfl,
     hj_store (by decide) (by exact (show (9 : Nat) < 10 by decide)) ?st (by decide) (by kernel_rfl) rfl, trivial⟩ ?_
  case bd =>
    intro a1 wx hg E
    have h1 : a1.eval (.tmp 10) = .int .i64 (x : Nat) := E.opv rfl
    have h2 : a1.eval (.tmp 14) = .int .i64 (y : Nat) := E.opv rfl
    unfold execOp
    simp only [List.map_toArray, List.map_cons, List.map_nil, h1, h2]
    have hbt : Try.prog.built 75 [(0, .int .i64 (x : Nat)), (1, .int .i64 (y : Nat))] = some #[.int .i64 (x : Nat), .int .i64 (y : Nat)] := by kernel_rfl
    simp only [Sem.run_bind, run_build wx _ _ _ hbt, Result.andThen_ok]
    rfl
  case st =>
    intro a1 wx hg E
    have h1 : a1.eval (.tmp 6) = .pointer (some ⟨t1 + 1, 0, none⟩) := E.opv rfl
    have h2 : a1.eval (.tmp 15) = .agg #[.int .i64 (x : Nat), .int .i64 (y : Nat)] := E.opv rfl
    rw [h1, h2]
    have hbx := heap_kept hg (w := W.drew) hb2
    refine ⟨wx.setRow (t1 + 1) #[.int .i64 (x : Nat), .int .i64 (y : Nat)], ?_, ⟨by simp [World.setRow], fun p h1 h2 => World.cell?_of_block (setRow_other _ _ _ _ h2)⟩, wx, hg, rfl⟩
    simp only [Instr.storeAt, Instr.sureAddr, Sem.run_bind, Sem.run_pure, Result.andThen_ok]
    exact run_storeVar_row _ _ _ _ _ _ hbx (by kernel_rfl) rfl (by simp [Value.oneCell'])
  · intro sx hs
    simp only [List.mem_cons, List.not_mem_nil, or_false] at hs
    rcases hs with rfl | rfl | rfl | rfl | rfl | rfl | rfl | rfl | rfl | rfl <;> first | exact Or.inl ⟨_, rfl⟩ | exact Or.inr ⟨_, rfl, fun _ _ _ _ _ => trivial⟩
  · intro xs listed a1 w8 hall hxs hJ hR _
    obtain ⟨w9, hg9, rfl⟩ := hJ.p1 (hall 9 (by exact (show (9 : Nat) < 10 by decide)))
    have hb9 := setRow_heap w9 (t1 + 1) _ #[.int .i64 (x : Nat), .int .i64 (y : Nat)] _ _ (heap_kept hg9 (w := W.drew) hb2)
    have hgw : Grew w (w9.setRow (t1 + 1) #[.int .i64 (x : Nat), .int .i64 (y : Nat)]) := (hG.trans ((drew_grew W).trans hg9)).below (B := t1 + 1) ⟨rfl, rfl, rfl, by simp [World.setRow], fun k hk => setRow_other _ _ _ _ (by omega)⟩ (by omega)
    have HB9 := hidd hb9
    have HGw := hidd hgw
    simp only [List.foldl_cons, List.foldl_nil, List.setIfInBounds_toArray, List.set_cons_succ, List.set_cons_zero]
    clear hall hxs hJ hR hb9 hgw c0 c1
    go_wp2_with fail
    exact bodyPost_ret (results_cell_row (p := 6) rfl _ _ _ _ _ _ _ rfl HB9.out Try.underlying75 rfl (by kernel_rfl)) rfl ⟨rfl, HGw.out⟩
section
variable {P : Program} {w0 : World} {ops : Array Oper} {Q : Exit → Act → World → Prop} {shs : List Sh} {a0 : Act} {A : Array Edge} {i : Nat} {d : Option Tmp} {ty : TypeId} {pos : String} {G : Option (Nat × Bool)}
theorem sg_callv2 {f x y : Operand} {g : FuncId} {lb : Array Value} {u1 u2 v : Value} {ats : Array TypeId} (hf : isGo P g = true) (hc : ∀ w, Grew w0 w → Calls P g (#[u1, u2] ++ lb) w fun e w' => e = .returned v ∧ Grew w w')
    (hg : guardIs ops shs A G = some true) (hfx : opSh ops shs A a0 f = .val (.func (.func g) #[] lb)) (hx : opSh ops shs A a0 x = .val u1) (hy : opSh ops shs A a0 y = .val u2) (hs : shs.getD i (.fact fun _ _ => True) = .val v) :
    StepOk Grew P ops Q (shF shs) a0 w0 i ⟨d, .call { callee := .value f, args := #[x, y], argTypes := ats }, ty, pos, A, G⟩ :=
  st_run hg fun a w E K hK => by
    have hfv : a.eval f = .func (.func g) #[] lb := E.opv hfx
    have h1 : a.eval x = u1 := E.opv hx
    have h2 : a.eval y = u2 := E.opv hy
    unfold Oper.wp
    rw [execOp_call_val a hfv, run_go hf]
    have e : (#[x, y] : Array Operand).map a.eval = #[u1, u2] := by simp [h1, h2]
    show Calls _ _ _ _ _
    rw [e]
    refine (hc w E.grew).mono fun e w' ⟨he, hgr⟩ => ?_
    subst he
    exact hK v w' hgr (by unfold shF; rw [hs]; rfl)
end
theorem agg_bool (w : World) : (isAgg 4).run Try.prog w = .ok false w := run_isAgg Try.underlying4 w
theorem agg_fn2 (w : World) : (isAgg 64).run Try.prog w = .ok false w := run_isAgg Try.underlying64 w
theorem TwoEn_any (A B : Aut) (na ea na' ea' : Option Addr) (nc ec nc' ec' : Nat) (fb b b' s s' : Nat) (g : FuncId) (z : Bool) (w : World) (h : Held w b A na nc ea ec) (h' : Held w b' B na' nc' ea' ec') (hr : RightA A) (hr' : RightA B) (hs : s < A.next.length) (hs' : s' < B.next.length)
    (hfb : w.cell? ⟨fb, 0, none⟩ = some (.func (.func g) #[] #[])) (hg : isGo Try.prog g = true) (hC : ∀ w1, Calls Try.prog g #[.bool (A.ends.getD s false), .bool (B.ends.getD s' false)] w1 fun e w' => e = .returned (.bool z) ∧ Grew w1 w') :
    Calls Try.prog 36 #[.agg #[.int .i64 (s : Nat), .int .i64 (s' : Nat)], .pointer (some ⟨fb, 0, none⟩), .pointer (some ⟨b, 0, none⟩), .pointer (some ⟨b', 0, none⟩)] w fun e w' => e = .returned (.bool z) ∧ Grew w w' := by
  have he := h.box.en
  have he' := h'.box.en
  obtain ⟨eb, eo, rfl, hce⟩ := h.rows.ends.get (by rw [hr.ne]; exact hr.n0)
  obtain ⟨eb', eo', rfl, hce'⟩ := h'.rows.ends.get (by rw [hr'.ne]; exact hr'.n0)
  have hcs := hce s (by rw [hr.ne]; exact hs)
  have hcs' := hce' s' (by rw [hr'.ne]; exact hs')
  have hsl : s < A.ends.length := by rw [hr.ne]; exact hs
  have hsl' : s' < B.ends.length := by rw [hr'.ne]; exact hs'
  have HC := hidd hC
  obtain ⟨n, hn⟩ : ∃ n, A.ends.length = n := ⟨_, rfl⟩
  obtain ⟨n', hn'⟩ : ∃ n, B.ends.length = n := ⟨_, rfl⟩
  rw [hn] at he hsl
  rw [hn'] at he' hsl'
  obtain ⟨x, hx⟩ : ∃ x, A.ends.getD s false = x := ⟨_, rfl⟩
  obtain ⟨y, hy⟩ : ∃ y, B.ends.getD s' false = y := ⟨_, rfl⟩
  rw [hx] at hcs HC
  rw [hy] at hcs' HC
  clear hx hy hn hn' hce hce' h h' hr hr' hs hs' hC
  have HG := hidd hg
  clear hg
  go_enter Try.func36, Try.ntmps36
  go_wp2_with fail
  obtain ⟨t1, ht1⟩ : ∃ t1, w.heap.size = t1 := ⟨_, rfl⟩
  have hGr : Grew w (w.alloc (.cells #[.int .i64 (s : Nat), .int .i64 (s' : Nat)] 75)) := (Grew.refl w).alloc _
  have hb1 : (w.alloc (.cells #[.int .i64 (s : Nat), .int .i64 (s' : Nat)] 75)).heap[t1]? = some (.cells #[.int .i64 (s : Nat), .int .i64 (s' : Nat)] 75 (0, 0)) := by
    rw [← ht1]; exact heap_alloc_new w _
  have d1 := hGr.keeps hfb
  have d2 := hGr.keeps he
  have d3 := hGr.keeps he'
  have d4 := hGr.keeps hcs
  have d5 := hGr.keeps hcs'
  rw [ht1]
  generalize w.alloc (.cells #[.int .i64 (s : Nat), .int .i64 (s' : Nat)] 75) = W at hGr hb1 d1 d2 d3 d4 d5 ⊢
  obtain ⟨⟨c0, c1⟩, _⟩ := two_cells (w := W) hb1
  refine frameR [6, 7, 8, 9, 10, 11, 12, 13, 14, 15, 16, 17, 18, 19, 5] mixed drew_grew grew_tr
    [.val (.func (.func g) #[] #[]), .val (.pointer (some ⟨b, 257, none⟩)), .val (.slice (some ⟨eb, eo, none⟩) n ec), .val (.pointer (some ⟨t1, 0, none⟩)), .val (.int .i64 (s : Nat)), .val (.pointer (some ⟨eb, eo + s, none⟩)), .val (.bool x),
     .val (.pointer (some ⟨b', 257, none⟩)), .val (.slice (some ⟨eb', eo', none⟩) n' ec'), .val (.pointer (some ⟨t1, 1, none⟩)), .val (.int .i64 (s' : Nat)), .val (.pointer (some ⟨eb', eo' + s', none⟩)), .val (.bool y), .val (.bool z), .val (.bool z)]
    (vals_mono ?_) (by kernel_rfl) (by kernel_rfl)
    ⟨sg_load (p := ⟨fb, 0, none⟩) (fun wx g => load_one agg_fn2 (g.keeps d1)) (by kernel_rfl) rfl rfl, sg_field (field_aut2 b) (by kernel_rfl) rfl rfl, sg_load (p := ⟨b, 257, none⟩) (fun wx g => load_one agg_boolsl (g.keeps d2)) (by kernel_rfl) rfl rfl,
     sg_index (fun w => index_two (i := 0) (by omega) w) (by kernel_rfl) rfl rfl rfl, sg_load (p := ⟨t1, 0, none⟩) (fun wx g => load_one agg_int (g.keeps c0)) (by kernel_rfl) rfl rfl, sg_index ?i1 (by kernel_rfl) rfl rfl rfl, sg_load (p := ⟨eb, eo + s, none⟩) (fun wx g => load_one agg_bool (g.keeps d4)) (by kernel_rfl) rfl rfl,
     sg_field (field_aut2 b') (by kernel_rfl) rfl rfl, sg_load (p := ⟨b', 257, none⟩) (fun wx g => load_one agg_boolsl (g.keeps d3)) (by kernel_rfl) rfl rfl,
     sg_index (fun w => index_two (i := 1) (by omega) w) (by kernel_rfl) rfl rfl rfl, sg_load (p := ⟨t1, 1, none⟩) (fun wx g => load_one agg_int (g.keeps c1)) (by kernel_rfl) rfl rfl, sg_index ?i2 (by kernel_rfl) rfl rfl rfl, sg_load (p := ⟨eb', eo' + s', none⟩) (fun wx g => load_one agg_bool (g.keeps d5)) (by kernel_rfl) rfl rfl,
     sg_callv2 (lb := #[]) (u1 := .bool x) (u2 := .bool y) (v := .bool z) HG.out ?cl (by kernel_rfl) rfl rfl rfl rfl, st_assign Grew.refl (by kernel_rfl) rfl, trivial⟩ ?_
  case cl => intro wx _; rw [Array.append_empty]; exact HC.out wx
  case i1 =>
    intro wx
    have := index_sl (sz := 1) Try.underlying24 (by kernel_rfl) (fun w => size_of (by kernel_rfl) w) (b := eb) (o := eo) (c := ec) hsl wx
    rwa [Nat.mul_one] at this
  case i2 =>
    intro wx
    have := index_sl (sz := 1) Try.underlying24 (by kernel_rfl) (fun w => size_of (by kernel_rfl) w) (b := eb') (o := eo') (c := ec') hsl' wx
    rwa [Nat.mul_one] at this
  · intro sx hs
    simp only [List.mem_cons, List.not_mem_nil, or_false] at hs
    rcases hs with rfl | rfl | rfl | rfl | rfl | rfl | rfl | rfl | rfl | rfl | rfl | rfl | rfl | rfl | rfl <;> exact ⟨_, rfl⟩
  · intro xs w8 hg8 ht
    have HGw := hidd (hGr.trans hg8)
    have h13 : xs 5 = .bool z := by
      have := ht 14 _ 5 rfl rfl
      exact this
    simp only [List.foldl_cons, List.foldl_nil, List.setIfInBounds_toArray, List.set_cons_succ, List.set_cons_zero]
    rw [h13]
    clear ht h13 hg8 c0 c1 d1 d2 d3 d4 d5 hfb he he' hcs hcs' hb1 hGr
    go_wp2_with fail
    go_ret
    exact ⟨rfl, HGw.out⟩
end Go.Proofs.Ytkkdpafkafjfgaa
