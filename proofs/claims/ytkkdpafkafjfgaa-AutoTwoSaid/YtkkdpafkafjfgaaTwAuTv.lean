/- The document's Two, over whatever Smallest does. -/
import Derived.Test.YtkkdpafkafjfgaaTwAuTb
namespace Go.Proofs.Ytkkdpafkafjfgaa
open Go.RowKit RR
set_option linter.unusedVariables false
set_option linter.unusedSimpArgs false
def OfIs (A : Aut) (eb eo ec : Nat) (v : Value) (w : World) : Prop := ∃ qb qo qc, v = .agg #[.slice (some ⟨qb, qo, none⟩) A.next.length qc, .slice (some ⟨eb, eo, none⟩) A.next.length ec] ∧ ∀ s d, s < A.next.length → d < 256 → w.cell? ⟨qb, qo + s * 256 + d, none⟩ = some (.int .i64 (stepA A s d : Nat))
theorem OfIs.kept {A : Aut} {eb eo ec : Nat} {v : Value} {w w' : World} (h : OfIs A eb eo ec v w) (g : Grew w w') : OfIs A eb eo ec v w' := by
  obtain ⟨qb, qo, qc, e, h⟩ := h
  exact ⟨qb, qo, qc, e, fun s d hs hd => g.keeps (h s d hs hd)⟩
theorem OfIs.pair {A : Aut} {eb eo ec : Nat} {v : Value} {w : World} (h : OfIs A eb eo ec v w) : ∃ x y, v = .agg #[x, y] ∧ x.oneCell' = true ∧ y.oneCell' = true := by
  obtain ⟨qb, qo, qc, e, h⟩ := h
  exact ⟨_, _, e, rfl, rfl⟩
section
variable {wb w0 : World} {g : Nat} {Fin : World → Prop} {mk : List Nat} {is : Nat} {ops : Array Oper} {Q : Exit → Act → World → Prop} {shs : List Sh} {a0 : Act} {A : Array Edge} {i : Nat} {d : Option Tmp} {ty : TypeId} {pos : String} {G : Option (Nat × Bool)}
theorem hj_num {P : Program} {x y : Operand} {u v z : Value} {op : BinOp} {xt t2 : TypeId} (hb : ∀ w, (do eqGuard op xt x y u v; binOp op xt u v : Sem Value).run P w = .ok z w) (hi : i ∈ mk) (his : i ≠ is) (hg : guardIs ops shs A G = some true) (hx : opSh ops shs A a0 x = .val u) (hy : opSh ops shs A a0 y = .val v) (hs : shs.getD i (.fact fun _ _ => True) = .val z) :
    StepJ (StJ wb Fin mk is) (NoRl g) P ops Q (shF shs) a0 w0 i ⟨d, .binOp op xt x y t2, ty, pos, A, G⟩ :=
  hj_pure hi his (fun a w _ E => by
    have hv : a.eval x = u := E.opv hx
    have hw : a.eval y = v := E.opv hy
    have h := hb w
    unfold execOp
    simp only [hv, hw, Sem.run_bind] at h ⊢
    simp [h]) hg hs
end
theorem run_mul_small {a b c : Nat} (h : a * b = c) (hc : c ≤ 9223372036854775807) {x y : Operand} (w : World) : (do eqGuard .mul 3 x y (.int .i64 (a : Nat)) (.int .i64 (b : Nat)); binOp .mul 3 (.int .i64 (a : Nat)) (.int .i64 (b : Nat)) : Sem Value).run Try.prog w = .ok (.int .i64 (c : Nat)) w := by
  have e : ((a : Nat) : Int) * ((b : Nat) : Int) = (c : Int) := by rw [← h]; simp
  have hw : IntKind.i64.wrap (c : Int) = (c : Int) := by rw [IntKind.wrap_i64]; omega
  simp [eqGuard, binOp, Op.intArith, e, hw]
theorem run_add_small {a b c : Nat} (h : a + b = c) (hc : c ≤ 9223372036854775807) {x y : Operand} (w : World) : (do eqGuard .add 3 x y (.int .i64 (a : Nat)) (.int .i64 (b : Nat)); binOp .add 3 (.int .i64 (a : Nat)) (.int .i64 (b : Nat)) : Sem Value).run Try.prog w = .ok (.int .i64 (c : Nat)) w := by
  have e : ((a : Nat) : Int) + ((b : Nat) : Int) = (c : Int) := by rw [← h]; simp
  have hw : IntKind.i64.wrap (c : Int) = (c : Int) := by rw [IntKind.wrap_i64]; omega
  simp [eqGuard, binOp, Op.intArith, e, hw]
set_option maxRecDepth 100000 in
set_option maxHeartbeats 4000000 in
theorem TwoR_any (HSm : SmallC) (A B : Aut) (na ea na' ea' : Option Addr) (nc ec nc' ec' : Nat) (both : Bool) (w : World) (h : AutAt w A na ea) (h' : AutAt w B na' ea') :
    Calls Try.prog 14 #[.agg (autB A na nc ea ec), .agg (autB B na' nc' ea' ec'), .bool both] w (TwoEnd w (twoErr A B) fun l => if both = true then (raA A).tak 0 l && (raA B).tak 0 l else (raA A).tak 0 l || (raA B).tak 0 l) := by
  have HSa := hidd (autB_size A na nc ea ec)
  have HSb := hidd (autB_size B na' nc' ea' ec')
  obtain ⟨t1, ht1⟩ : ∃ t1, w.heap.size = t1 := ⟨_, rfl⟩
  obtain ⟨W1, hW1⟩ : ∃ W1, w.alloc (.cells (autB A na nc ea ec) 26) = W1 := ⟨_, rfl⟩
  have g1 : Grew w W1 := by rw [← hW1]; exact (Grew.refl w).alloc _
  have b1 : W1.heap[t1]? = some (.cells (autB A na nc ea ec) 26 (0, 0)) := by rw [← hW1, ← ht1]; exact heap_alloc_new w _
  have x1 : Box W1 t1 A na nc ea ec := by rw [← hW1, ← ht1]; exact box_new w A na nc ea ec _
  have s1 : W1.heap.size = t1 + 1 := by rw [← hW1, World.size_alloc, ht1]
  obtain ⟨W2, hW2⟩ : ∃ W2, W1.alloc (.cells (autB B na' nc' ea' ec') 26) = W2 := ⟨_, rfl⟩
  have g2 : Grew W1 W2 := by rw [← hW2]; exact (Grew.refl W1).alloc _
  have b2 : W2.heap[t1 + 1]? = some (.cells (autB B na' nc' ea' ec') 26 (0, 0)) := by rw [← hW2, ← s1]; exact heap_alloc_new W1 _
  have x2 : Box W2 (t1 + 1) B na' nc' ea' ec' := by rw [← hW2, ← s1]; exact box_new W1 B na' nc' ea' ec' _
  have s2 : W2.heap.size = t1 + 2 := by rw [← hW2, World.size_alloc, s1]
  obtain ⟨W, hW⟩ : ∃ W, W2.alloc (.cells zAut 26) = W := ⟨_, rfl⟩
  have g4 : Grew W2 W := by rw [← hW]; exact (Grew.refl W2).alloc _
  have HR : Hid (W.heap[t1 + 1 + 1]? = some (.cells zAut 26 (0, 0))) := by rw [← hW, show t1 + 1 + 1 = W2.heap.size by omega]; exact heap_alloc_new W2 _
  have HG := hidd ((g1.trans g2).trans g4)
  have HH := hidd (heap_kept (g2.trans g4) b1)
  have HH' := hidd (heap_kept g4 b2)
  have HL := hidd (show Held W t1 A na nc ea ec from ⟨x1.kept (g2.trans g4), h.kept HG.out⟩)
  have HL' := hidd (show Held W (t1 + 1) B na' nc' ea' ec' from ⟨x2.kept g4, h'.kept HG.out⟩)
  have HWr := hidd (WrongR_any A na ea nc ec W HL.out.rows)
  have HWr' : Hid (∀ w2, Grew W w2 → Calls Try.prog 6 #[.agg (autB B na' nc' ea' ec')] w2 fun e w' => e = .returned (.int .i64 (wrongA B)) ∧ Grew w2 w') := fun w2 g => WrongR_any B na' ea' nc' ec' w2 (HL'.out.rows.kept g)
  have HOf : Hid (∀ w1, Grew W w1 → RightA A → Calls Try.prog 19 #[.agg (autB A na nc ea ec)] w1 _) := fun w1 g hr => AOf_any A na ea nc ec w1 (HL.out.rows.kept g) hr
  have HOf' : Hid (∀ w1, Grew W w1 → RightA B → Calls Try.prog 19 #[.agg (autB B na' nc' ea' ec')] w1 _) := fun w1 g hr => AOf_any B na' ea' nc' ec' w1 (HL'.out.rows.kept g) hr
  have HAc := hidd (And.intro h.c256 h'.c256)
  have HSm := hidd HSm
  have hz := zero_aut
  have hWx : ((w.alloc (.cells (autB A na nc ea ec) 26)).alloc (.cells (autB B na' nc' ea' ec') 26)).alloc (.cells zAut 26) = W := by rw [hW1, hW2, hW]
  subst ht1
  clear hW1 hW2 hW s1 s2
  generalize hav : autB A na nc ea ec = av at *
  generalize hbv : autB B na' nc' ea' ec' = bv at *
  clear g1 g2 g4 b1 b2 x1 x2 h h'
  obtain ⟨L, hL⟩ : ∃ L : List UInt8 → Bool, (fun l => if both = true then (raA A).tak 0 l && (raA B).tak 0 l else (raA A).tak 0 l || (raA B).tak 0 l) = L := ⟨_, rfl⟩
  rw [hL]
  have HLg := hidd hL
  clear hL
  obtain ⟨err, herr⟩ : ∃ err, wrongA A = err := ⟨_, rfl⟩
  have HE := hidd herr
  rw [herr] at HWr
  go_enter Try.func14, Try.ntmps14
  go_wp2_with (refine wpList_load_aut (b := w.heap.size) rfl rfl rfl HH.out HSa.out ?_)
  refine HWr.out.mono ?_; rintro e w1 ⟨rfl, g1⟩
  obtain ⟨rs, hrs⟩ : ∃ rs, w.heap.size + 1 + 1 = rs := ⟨_, rfl⟩
  rw [hrs] at HR ⊢
  have HRs := hidd (show w.heap.size ≤ rs by omega)
  have HW1 := hidd g1
  have HG1 := hidd (HG.out.trans g1)
  have HR1 := hidd (heap_kept g1 HR.out)
  clear g1 HWr hWx hrs
  by_cases h0 : err = 0
  · subst h0
    have HRa := hidd (wrongA_zero.1 HE.out)
    clear herr
    obtain ⟨err, herr⟩ : ∃ err, wrongA B = err := ⟨_, rfl⟩
    have HE' := hidd herr
    rw [herr] at HWr'
    clear herr
    have hh1 := heap_kept HW1.out HH'.out
    have HH1 := hidd hh1
    clear hh1
    go_wp2_with (refine wpList_load_aut (b := w.heap.size + 1) rfl rfl rfl HH1.out HSb.out ?_)
    refine (HWr'.out w1 HW1.out).mono ?_; rintro e w2 ⟨rfl, g2⟩
    have HW2 := hidd (HW1.out.trans g2)
    have HG2 := hidd (HG1.out.trans g2)
    have HR2 := hidd (heap_kept g2 HR1.out)
    clear g2 HWr' HW1 HG1 HR1 HH1
    by_cases h0 : err = 0
    · subst h0
      have HRb := hidd (wrongA_zero.1 HE'.out)
      have HLr := hidd (HL.out.kept HW2.out)
      have HLr' := hidd (HL'.out.kept HW2.out)
      have HH2 := hidd (heap_kept HW2.out HH.out)
      have HH2' := hidd (heap_kept HW2.out HH'.out)
      have c1 := HLr.out.box.nx
      have c2 := HLr'.out.box.nx
      have n1 := HRa.out.n1
      have n2 := HRb.out.n1
      clear HL HL' HR HH HH'
      obtain ⟨n, hn⟩ : ∃ n, A.next.length = n := ⟨_, rfl⟩
      obtain ⟨m, hm⟩ : ∃ m, B.next.length = m := ⟨_, rfl⟩
      have HN := hidd (And.intro hn hm)
      rw [hn] at c1 n1
      rw [hm] at c2 n2
      clear hn hm
      have hnm : n * m ≤ 8192 * 8192 := Nat.mul_le_mul n1 n2
      obtain ⟨q, hq⟩ : ∃ q, n * m = q := ⟨_, rfl⟩
      have hq2 : (n : Int) * (m : Int) = (q : Int) := by rw [← hq]; simp
      have HQ := hidd hq
      rw [hq] at hnm
      clear hq
      by_cases hqb : 8192 < q
      · have k3 : decide ((8192 : Int) < (q : Int)) = true := decide_eq_true (by omega)
        have HEr : Hid (twoErr A B = 4) := by unfold twoErr; rw [if_neg (fun h => h HE.out), if_neg (fun h => h HE'.out), HN.out.1, HN.out.2, HQ.out, if_pos hqb]; exact rfl
        go_wp2_with (first | (refine wpList_build_aut rfl rfl ?_) | (refine wpList_store_aut (b := rs) rfl rfl rfl rfl HR2.out zAut_size zAut_size zAut_one ?_))
        exact bodyPost_ret (results_aut2 (p := 6) (q := 7) rfl rfl rfl (setRow_heap w2 rs _ zAut _ _ HR2.out) zAut_size) rfl ⟨zeroA, none, 0, none, 0, by rw [zeroA_B, HEr.out]; rfl, fun w'' _ _ => zeroA_at w'', setRow_grew HG2.out HRs.out _, fun _ => rfl, fun h => absurd (HEr.out.symm.trans h) (by decide)⟩
      · have k3 : decide ((8192 : Int) < (q : Int)) = false := decide_eq_false (by omega)
        have HEr : Hid (twoErr A B = 0) := by unfold twoErr; rw [if_neg (fun h => h HE.out), if_neg (fun h => h HE'.out), HN.out.1, HN.out.2, HQ.out, if_neg hqb]; exact rfl
        obtain ⟨eb, eo, hea, hec⟩ := HLr.out.rows.ends.get (by rw [HRa.out.ne]; exact HRa.out.n0)
        obtain ⟨eb', eo', hea', hec'⟩ := HLr'.out.rows.ends.get (by rw [HRb.out.ne]; exact HRb.out.n0)
        have HO1 : Hid (∀ w3, Grew w2.drew w3 → Calls Try.prog 19 #[.agg av] w3 fun e w' => ∃ v, e = .returned v ∧ Grew w3 w' ∧ OfIs A eb eo ec v w') := fun w3 g => (HOf.out w3 ((HW2.out.trans (drew_grew w2)).trans g) HRa.out).mono fun e w' ⟨qv, he, hq, hg⟩ => by
          obtain ⟨b, o, c, e2, _, hc⟩ := tab_rows hq HRa.out HAc.out.1
          exact ⟨_, he, hg, b, o, c, by rw [e2, hea, HRa.out.ne], hc⟩
        have HO2 : Hid (∀ w3, Grew w2.drew w3 → Calls Try.prog 19 #[.agg bv] w3 fun e w' => ∃ v, e = .returned v ∧ Grew w3 w' ∧ OfIs B eb' eo' ec' v w') := fun w3 g => (HOf'.out w3 ((HW2.out.trans (drew_grew w2)).trans g) HRb.out).mono fun e w' ⟨qv, he, hq, hg⟩ => by
          obtain ⟨b, o, c, e2, _, hc⟩ := tab_rows hq HRb.out HAc.out.2
          exact ⟨_, he, hg, b, o, c, by rw [e2, hea', HRb.out.ne], hc⟩
        have HEn := hidd (And.intro hec hec')
        clear hec hec' HOf HOf' hea hea'
        go_wp2_with fail
        have hA2 := heap_kept (drew_grew w2) HH2.out
        have hB2 := heap_kept (drew_grew w2) HH2'.out
        have hAl := lt_of_block hA2
        have hBl := lt_of_block hB2
        have oa : ∀ v w w', Grew w w' → OfIs A eb eo ec v w → OfIs A eb eo ec v w' := fun v w w' g h => h.kept g
        have ob : ∀ v w w', Grew w w' → OfIs B eb' eo' ec' v w → OfIs B eb' eo' ec' v w' := fun v w w' g h => h.kept g
        have hzt : ∀ w, (zeroValue 44).run Try.prog w = .ok (.agg #[.slice none 0 0, .slice none 0 0]) w := fun w => run_zero (by kernel_rfl) w
        refine RR.region_frame (J := NinJ w2.drew (OfIs A eb eo ec) (OfIs B eb' eo' ec')) (Rl := OldRl w2.drew.heap.size) [39, 40, 41, 42, 10, 11] mixed (OldRl.drew _) OldRl.trans
          [.val (.agg av), .fact fun _ _ => True, .val (.agg bv), .fact fun _ _ => True, .fact fun _ _ => True, .fact fun _ _ => True, .fact fun _ _ => True, .fact fun _ _ => True]
          (nin_start _ _) ?mono (by kernel_rfl) (by kernel_rfl)
          ⟨nj_do (z := fun _ _ _ => True) (by decide) (by decide) ?l0 (fun l a v w w' _ _ _ g _ h => nin_other oa ob 0 39 (by decide) (by decide) (by decide) (by decide) (by decide) (by decide) (by decide) (by decide) g h) (by kernel_rfl),
           nj_call (z := fun v _ w' => OfIs A eb eo ec v w') (by kernel_rfl) (by decide) (by decide) HO1.out (fun l a v w w' _ hs _ g hv h => nin_c1 ob (by rw [hs]; exact (show (40 : Nat) < 130 by decide)) g hv h) (by kernel_rfl) rfl rfl,
           nj_do (z := fun _ _ _ => True) (by decide) (by decide) ?l2 (fun l a v w w' _ _ _ g _ h => nin_other oa ob 2 41 (by decide) (by decide) (by decide) (by decide) (by decide) (by decide) (by decide) (by decide) g h) (by kernel_rfl),
           nj_call (z := fun v _ w' => OfIs B eb' eo' ec' v w') (by kernel_rfl) (by decide) (by decide) HO2.out (fun l a v w w' _ hs _ g hv h => nin_c3 oa (by rw [hs]; exact (show (42 : Nat) < 130 by decide)) g hv h) (by kernel_rfl) rfl rfl,
           nj_do (z := fun v w w' => v = .pointer (some ⟨w.heap.size, 0, none⟩) ∧ w'.heap[w.heap.size]? = some zTab) (by decide) (by decide) ?l4 (fun l a v w w' _ hs hl g hv h => nin_a4 oa ob (by rw [hs]; exact (show (10 : Nat) < 130 by decide)) hl g hv.1 hv.2 h) (by kernel_rfl),
           nj_do (z := fun v w w' => v = .pointer (some ⟨w.heap.size, 0, none⟩) ∧ w'.heap[w.heap.size]? = some zTab) (by decide) (by decide) ?l5 (fun l a v w w' _ hs hl g hv h => nin_a5 oa ob (by rw [hs]; exact (show (11 : Nat) < 130 by decide)) hl g hv.1 hv.2 h) (by kernel_rfl),
           nj_store6 (fun v w h => h.pair) (by decide) rfl (by kernel_rfl) rfl, nj_store7 (fun v w h => h.pair) (by decide) rfl (by kernel_rfl) rfl, trivial⟩ ?_
        case mono =>
          intro i v wa wb _ hs
          rcases i with _ | _ | _ | _ | _ | _ | _ | _ | i <;> first | exact hs | trivial
        case l0 =>
          intro a1 wx _ E
          have hv : a1.eval (.tmp 3) = .pointer (some ⟨w.heap.size, 0, none⟩) := E.opv rfl
          have hb := (E.grew.2 w.heap.size hAl hAl).trans hA2
          have hl := run_loadVar_row (P := Try.prog) wx w.heap.size 26 26 av (0, 0) _ hb Try.underlying26 rfl (by rw [HSa.out]; exact info_aut)
          refine ⟨.agg av, wx, ?_, Grew.refl _, rfl, trivial⟩
          unfold execOp
          simp only [hv, Instr.loadAt, Instr.sureAddr, Sem.run_bind, Sem.run_pure, Result.andThen_ok, hl]
        case l2 =>
          intro a1 wx _ E
          have hv : a1.eval (.tmp 4) = .pointer (some ⟨w.heap.size + 1, 0, none⟩) := E.opv rfl
          have hb := (E.grew.2 (w.heap.size + 1) hBl hBl).trans hB2
          have hl := run_loadVar_row (P := Try.prog) wx (w.heap.size + 1) 26 26 bv (0, 0) _ hb Try.underlying26 rfl (by rw [HSb.out]; exact info_aut)
          refine ⟨.agg bv, wx, ?_, Grew.refl _, rfl, trivial⟩
          unfold execOp
          simp only [hv, Instr.loadAt, Instr.sureAddr, Sem.run_bind, Sem.run_pure, Result.andThen_ok, hl]
        case l4 =>
          intro a1 wx _ E
          refine ⟨_, _, ?_, (Grew.refl wx).alloc (.cells #[.slice none 0 0, .slice none 0 0] 44), trivial, rfl, heap_alloc_new wx _⟩
          unfold execOp
          simp [Instr.alloc, Sem.run_bind, hzt wx, newVar]
          try rfl
        case l5 =>
          intro a1 wx _ E
          refine ⟨_, _, ?_, (Grew.refl wx).alloc (.cells #[.slice none 0 0, .slice none 0 0] 44), trivial, rfl, heap_alloc_new wx _⟩
          unfold execOp
          simp [Instr.alloc, Sem.run_bind, hzt wx, newVar]
          try rfl
        intro xs listed a1 w8 hall hxs hJ hR _
        obtain ⟨w3, k10, k11, hM, rfl⟩ := hJ.p2 (hall 7 (by exact (show (7 : Nat) < 8 by decide)))
        obtain ⟨m1, ma, mb, m4, m5, m6, m7, m8, m9, m10⟩ := hM
        have e10 : xs 10 = .pointer (some ⟨k10, 0, none⟩) := (hxs 10).symm.trans m4
        have e11 : xs 11 = .pointer (some ⟨k11, 0, none⟩) := (hxs 11).symm.trans m5
        obtain ⟨qb, qo, qc, e40, ha⟩ := ma
        obtain ⟨qb', qo', qc', e42, hb⟩ := mb
        have e40' : a1.tmps.getD 40 undef = .agg #[.slice (some ⟨qb, qo, none⟩) A.next.length qc, .slice (some ⟨eb, eo, none⟩) A.next.length ec] := e40
        have e42' : a1.tmps.getD 42 undef = .agg #[.slice (some ⟨qb', qo', none⟩) B.next.length qc', .slice (some ⟨eb', eo', none⟩) B.next.length ec'] := e42
        rw [e40', e42']
        have hint : ∀ (q o k : Nat) (x : Int), w3.cell? ⟨q, o, none⟩ = some (.int .i64 x) → w3.heap[k]? = some zTab → q ≠ k := fun q o k x h1 h2 e => by
          rw [e] at h1
          unfold World.cell? at h1
          dsimp only at h1
          rw [h2] at h1
          have h3 : (#[Value.slice none 0 0, Value.slice none 0 0] : Array Value)[o]? = some (.int .i64 x) := h1
          have h4 := Array.mem_of_getElem? h3
          simp at h4
        have hpA := HRa.out.n0
        have hpB := HRb.out.n0
        have a10 := hint _ _ _ _ (ha 0 0 hpA (by omega)) m9
        have a11 := hint _ _ _ _ (ha 0 0 hpA (by omega)) m10
        have b10 := hint _ _ _ _ (hb 0 0 hpB (by omega)) m9
        have b11 := hint _ _ _ _ (hb 0 0 hpB (by omega)) m10
        obtain ⟨w8, hw8⟩ : ∃ w8, (w3.setRow k10 (Value.agg #[.slice (some ⟨qb, qo, none⟩) A.next.length qc, .slice (some ⟨eb, eo, none⟩) A.next.length ec]).cells).setRow k11 (Value.agg #[.slice (some ⟨qb', qo', none⟩) B.next.length qc', .slice (some ⟨eb', eo', none⟩) B.next.length ec']).cells = w8 := ⟨_, rfl⟩
        have hk8 : ∀ k, k ≠ k10 → k ≠ k11 → w8.heap[k]? = w3.heap[k]? := fun k h1 h2 => by rw [← hw8, setRow_other _ _ _ _ h2, setRow_other _ _ _ _ h1]
        have H10 : Hid (w8.heap[k10]? = some (.cells #[.slice (some ⟨qb, qo, none⟩) A.next.length qc, .slice (some ⟨eb, eo, none⟩) A.next.length ec] 44 (0, 0))) := by
          rw [← hw8, setRow_other _ _ _ _ m8]; exact setRow_heap _ _ _ _ _ _ m9
        have H11 : Hid (w8.heap[k11]? = some (.cells #[.slice (some ⟨qb', qo', none⟩) B.next.length qc', .slice (some ⟨eb', eo', none⟩) B.next.length ec'] 44 (0, 0))) := by
          rw [← hw8]; exact setRow_heap _ _ _ _ _ _ (by rw [setRow_other _ _ _ _ (Ne.symm m8)]; exact m10)
        have HA8 : Hid (∀ s d, s < A.next.length → d < 256 → w8.cell? ⟨qb, qo + s * 256 + d, none⟩ = some (.int .i64 (stepA A s d : Nat))) := fun s d hs hd => by
          rw [World.cell?_of_block (a := ⟨qb, qo + s * 256 + d, none⟩) (hk8 qb a10 a11)]; exact ha s d hs hd
        have HB8 : Hid (∀ s d, s < B.next.length → d < 256 → w8.cell? ⟨qb', qo' + s * 256 + d, none⟩ = some (.int .i64 (stepA B s d : Nat))) := fun s d hs hd => by
          rw [World.cell?_of_block (a := ⟨qb', qo' + s * 256 + d, none⟩) (hk8 qb' b10 b11)]; exact hb s d hs hd
        have hg8 : Grew w2 w8 := by
          rw [← hw8]
          exact setRow_grew (setRow_grew ((drew_grew w2).trans m1) m6 _) m7 _
        have HG8 := hidd (HG2.out.trans hg8)
        have HR8 := hidd (heap_kept hg8 HR2.out)
        have HE8 : Hid ((∀ s, s < A.next.length → w8.cell? ⟨eb, eo + s, none⟩ = some (.bool (A.ends.getD s false))) ∧ ∀ s, s < B.next.length → w8.cell? ⟨eb', eo' + s, none⟩ = some (.bool (B.ends.getD s false))) :=
          ⟨fun s hs => hg8.keeps (HEn.out.1 s (by rw [HRa.out.ne]; exact hs)), fun s hs => hg8.keeps (HEn.out.2 s (by rw [HRb.out.ne]; exact hs))⟩
        have HBx := hidd (HLr'.out.box.kept hg8)
        rw [hw8]
        have HK := hidd (show k10 ≠ k11 from m8)
        simp only [List.foldl_cons, List.foldl_nil, List.setIfInBounds_toArray, List.set_cons_succ, List.set_cons_zero, e10, e11]
        clear hall hxs hJ hR m1 m4 m5 m6 m7 m8 m9 m10 ha hb a10 a11 b10 b11 hint hk8 hw8 hg8 hA2 hB2 hAl hBl oa ob e10 e11 e40 e42 e40' e42'
        have g9 := (Grew.refl w8).alloc (.cells #[.slice none 0 0, .slice none 0 0] 44)
        have HT0 := hidd (TbSt.start w8 (.cells #[.slice none 0 0, .slice none 0 0] 44 (0, 0)))
        have f1 := g9.keeps (two_cells H10.out).1.1
        have f2 := g9.keeps (two_cells H11.out).1.1
        have f3 := g9.keeps HBx.out.nx
        rw [HN.out.1] at f1
        rw [HN.out.2] at f2 f3
        clear g9 c1 c2
        go_wp2_with fail
        clear f1 f2 f3
        have hT0 := HT0.out
        obtain ⟨ob, hob⟩ : ∃ ob, w8.heap.size = ob := ⟨_, rfl⟩
        rw [hob] at hT0 ⊢
        have HT1 := hidd hT0
        have HOb := hidd hob
        clear hT0 HT0 hob
        generalize w8.alloc (.cells #[.slice none 0 0, .slice none 0 0] 44) = W9 at HT1 ⊢
        obtain ⟨P, hP⟩ : ∃ P, pairA (raA A) (raA B) (fun x y => if both = true then x && y else x || y) = P := ⟨_, rfl⟩
        have HP := hidd hP
        clear hP
        go_loopw [49] (fun s49 wr => ∃ i : Nat, s49 = .int .i64 (i : Nat) ∧ i ≤ n ∧ Hid (∃ nv ev, TbSt w8 wr ob ((List.range (i * m)).map P.nx) ((List.range (i * m)).map P.en) nv ev (.cells #[nv, ev] 44 (0, 0)))) (fun s49 _ => n - (intOf s49).toNat)
        case atStart => exact ⟨0, rfl, by omega, _, _, by rw [Nat.zero_mul]; exact HT1.out⟩
        case round =>
          obtain ⟨i, rfl, hi, KS⟩ := hrel
          clear HT1
          obtain ⟨nv, ev, hS⟩ := KS.out
          by_cases hil : i < n
          · have ki : decide ((i : Int) < (n : Int)) = true := decide_eq_true (by omega)
            have f2 := hS.grew.keeps (two_cells H11.out).1.1
            rw [HN.out.2] at f2
            have HS := hidd hS
            clear hS KS
            go_wp2_with fail
            clear f2
            obtain ⟨w00, rfl⟩ : ∃ w00, w00 = wr := ⟨_, rfl⟩
            go_loopw [55] (fun s55 wr => ∃ k : Nat, s55 = .int .i64 (k : Nat) ∧ k ≤ m ∧ Hid (∃ nv ev, TbSt w8 wr ob ((List.range (i * m + k)).map P.nx) ((List.range (i * m + k)).map P.en) nv ev (.cells #[nv, ev] 44 (0, 0)))) (fun s55 _ => m - (intOf s55).toNat)
            case atStart => exact ⟨0, rfl, by omega, _, _, HS.out⟩
            case round =>
              obtain ⟨k, rfl, hk, JS⟩ := hrel
              clear HS
              obtain ⟨nv, ev, hS⟩ := JS.out
              by_cases hkl : k < m
              · have kk : decide ((k : Int) < (m : Int)) = true := decide_eq_true (by omega)
                have hz3 := run_zero_rowI
                obtain ⟨p, hp⟩ : ∃ p, i * m + k = p := ⟨_, rfl⟩
                rw [hp] at hS
                have HPk := hidd hp
                have HI0 : Hid (TbSt w8 (wr.alloc (.cells (rowI fun _ => 0) 22)) ob ((List.range p).map P.nx) ((List.range p).map P.en) nv ev (.cells #[nv, ev] 44 (0, 0)) ∧ ArrAt (wr.alloc (.cells (rowI fun _ => 0) 22)) wr.heap.size 0 256 (fun j => .int .i64 ((if j < 0 then P.nx p j else 0 : Nat) : Int)) ∧ ¬ (wr.heap.size = ob ∨ nv.ownBlock = some wr.heap.size ∨ ev.ownBlock = some wr.heap.size) ∧ w8.heap.size ≤ wr.heap.size) :=
                  ⟨hS.kept ((Grew.refl wr).alloc _), (rowI_at wr (fun _ => 0) 22).congr fun j _ => by rw [if_neg (Nat.not_lt_zero j)]; rfl, fun hf => by have := hS.old hf; omega, hS.grew.size⟩
                clear JS hS hp
                go_wp2_with fail
                generalize wr.alloc (.cells (rowI fun _ => 0) 22) = W1 at HI0 ⊢
                obtain ⟨g0, hg0⟩ : ∃ g0, wr.heap.size = g0 := ⟨_, rfl⟩
                rw [hg0] at HI0 ⊢
                clear hg0
                obtain ⟨w01, rfl⟩ : ∃ w01, w01 = wr := ⟨_, rfl⟩
                go_loopw [58] (fun s58 wr => ∃ c : Nat, s58 = .int .i64 (c : Nat) ∧ c ≤ 256 ∧ Hid (TbSt w8 wr ob ((List.range p).map P.nx) ((List.range p).map P.en) nv ev (.cells #[nv, ev] 44 (0, 0)) ∧ ArrAt wr g0 0 256 (fun j => .int .i64 ((if j < c then P.nx p j else 0 : Nat) : Int)) ∧ ¬ (g0 = ob ∨ nv.ownBlock = some g0 ∨ ev.ownBlock = some g0) ∧ w8.heap.size ≤ g0)) (fun s58 _ => 256 - (intOf s58).toNat)
                case atStart => exact ⟨0, rfl, by omega, HI0.out⟩
                case round =>
                  obtain ⟨c, rfl, hc, KS⟩ := hrel
                  clear HI0
                  by_cases hcl : c < 256
                  · have kc : decide ((c : Int) < 256) = true := decide_eq_true (by omega)
                    obtain ⟨y1, hy1⟩ : ∃ y, stepA A i c = y := ⟨_, rfl⟩
                    obtain ⟨y2, hy2⟩ : ∃ y, stepA B k c = y := ⟨_, rfl⟩
                    have hgr := KS.out.1.grew
                    have r1 := hgr.keeps (two_cells H10.out).1.1
                    have r3 := hgr.keeps (two_cells H11.out).1.1
                    rw [HN.out.1] at r1
                    rw [HN.out.2] at r3
                    have r2 := hgr.keeps (HA8.out i c (by rw [HN.out.1]; exact hil) hcl)
                    have r4 := hgr.keeps (HB8.out k c (by rw [HN.out.2]; exact hkl) hcl)
                    rw [hy1] at r2
                    rw [hy2] at r4
                    have l1 : y1 < n := by rw [← hy1, ← HN.out.1]; exact stepA_lt HRa.out HAc.out.1 (by rw [HN.out.1]; exact hil) hcl
                    have l2 : y2 < m := by rw [← hy2, ← HN.out.2]; exact stepA_lt HRb.out HAc.out.2 (by rw [HN.out.2]; exact hkl) hcl
                    have cr := KS.out.2.1.at0 c hcl
                    rw [if_neg (Nat.lt_irrefl c)] at cr
                    have cf := KS.out.2.1.free0 c hcl
                    obtain ⟨z1, hz1⟩ : ∃ z, y1 * m = z := ⟨_, rfl⟩
                    obtain ⟨z2, hz2⟩ : ∃ z, z1 + y2 = z := ⟨_, rfl⟩
                    have hzq : z2 < q := by rw [← hz2, ← hz1, ← HQ.out]; exact pair_lt l1 l2
                    have HPc : Hid (P.nx p c = z2) := by
                      rw [← HP.out, ← HPk.out]
                      show (raA A).nx ((i * m + k) / (raA B).n) c * (raA B).n + (raA B).nx ((i * m + k) % (raA B).n) c = z2
                      rw [show (raA B).n = m from HN.out.2, (pair_at hkl).1, (pair_at hkl).2, ← hz2, ← hz1, ← hy1, ← hy2]; rfl
                    have HKS := hidd KS.out
                    clear KS hgr
                    go_wp2_with fail
                    refine RR.region_frame (J := StJ wr.drew (fun w' => ∃ w1, Grew wr.drew w1 ∧ w' = w1.setCell ⟨g0, c, none⟩ (.int .i64 (z2 : Nat))) [0, 1, 2, 3, 4, 5, 6, 7, 8, 9, 10, 11, 12, 13, 14, 15, 16, 17, 18] 19) (Rl := NoRl g0) [61, 62, 63, 64, 65, 66, 67, 68, 69, 70, 71, 72, 73, 74, 75, 76, 77, 78, 79] mixed (NoRl.drew _) NoRl.trans
                      [.val (.int .i64 (c : Nat)), .val (.pointer (some ⟨k10, 0, none⟩)), .val (.slice (some ⟨qb, qo, none⟩) n qc), .val (.int .i64 (i : Nat)), .val (.int .i64 (c : Nat)), .val (.pointer (some ⟨qb, qo + i * 256, none⟩)), .val (.pointer (some ⟨qb, qo + i * 256 + c, none⟩)), .val (.int .i64 (y1 : Nat)), .val (.int .i64 (m : Nat)), .val (.int .i64 (z1 : Nat)),
                       .val (.pointer (some ⟨k11, 0, none⟩)), .val (.slice (some ⟨qb', qo', none⟩) m qc'), .val (.int .i64 (k : Nat)), .val (.int .i64 (c : Nat)), .val (.pointer (some ⟨qb', qo' + k * 256, none⟩)), .val (.pointer (some ⟨qb', qo' + k * 256 + c, none⟩)), .val (.int .i64 (y2 : Nat)), .val (.int .i64 (z2 : Nat)), .val (.pointer (some ⟨g0, c, none⟩)), .fact fun _ _ => True]
                      (st_start _ _) (no_mono ?_) (by kernel_rfl) (by kernel_rfl)
                      ⟨hj_move (by decide) (by decide) (by kernel_rfl) rfl rfl, hj_field (field_tab0 k10) (by decide) (by decide) (by kernel_rfl) rfl rfl, hj_load1 (wb := wr.drew) (p := ⟨k10, 0, none⟩) agg_slices r1 (by decide) (by decide) (by kernel_rfl) rfl rfl, hj_move (by decide) (by decide) (by kernel_rfl) rfl rfl, hj_move (by decide) (by decide) (by kernel_rfl) rfl rfl,
                       hj_index (index_sl (sz := 256) agg_rows (by kernel_rfl) (fun w => size_of info_cls w) hil) (by decide) (by decide) (by kernel_rfl) rfl rfl rfl, hj_index (index_ar hcl) (by decide) (by decide) (by kernel_rfl) rfl rfl rfl, hj_load1 (wb := wr.drew) (p := ⟨qb, qo + i * 256 + c, none⟩) agg_int r2 (by decide) (by decide) (by kernel_rfl) rfl rfl,
                       hj_move (by decide) (by decide) (by kernel_rfl) rfl rfl, hj_num (run_mul_small hz1 (by omega)) (by decide) (by decide) (by kernel_rfl) rfl rfl rfl,
                       hj_field (field_tab0 k11) (by decide) (by decide) (by kernel_rfl) rfl rfl, hj_load1 (wb := wr.drew) (p := ⟨k11, 0, none⟩) agg_slices r3 (by decide) (by decide) (by kernel_rfl) rfl rfl, hj_move (by decide) (by decide) (by kernel_rfl) rfl rfl, hj_move (by decide) (by decide) (by kernel_rfl) rfl rfl,
                       hj_index (index_sl (sz := 256) agg_rows (by kernel_rfl) (fun w => size_of info_cls w) hkl) (by decide) (by decide) (by kernel_rfl) rfl rfl rfl, hj_index (index_ar hcl) (by decide) (by decide) (by kernel_rfl) rfl rfl rfl, hj_load1 (wb := wr.drew) (p := ⟨qb', qo' + k * 256 + c, none⟩) agg_int r4 (by decide) (by decide) (by kernel_rfl) rfl rfl,
                       hj_num (run_add_small hz2 (by omega)) (by decide) (by decide) (by kernel_rfl) rfl rfl rfl, hj_index ?ig (by decide) (by decide) (by kernel_rfl) rfl rfl rfl,
                       hj_store (by decide) (by exact (show (19 : Nat) < 20 by decide)) ?st (by decide) (by kernel_rfl) rfl, trivial⟩ ?_
                    case ig => intro wx; have := index_ar (b := g0) (o := 0) hcl wx; rwa [Nat.zero_add] at this
                    case st =>
                      intro a1 wx hg E
                      have h1 : a1.eval (.tmp 79) = .pointer (some ⟨g0, c, none⟩) := E.opv rfl
                      have h2 : a1.eval (.tmp 78) = .int .i64 (z2 : Nat) := E.opv rfl
                      rw [h1, h2]
                      have hcx := hg.keeps (p := ⟨g0, c, none⟩) cr
                      have hfx : wx.frozen? ⟨g0, c, none⟩ = false := by rw [hg.frozen (p := ⟨g0, c, none⟩) (lt_of_cell cr)]; exact cf
                      exact ⟨_, store_one (size_of info_int) hcx hfx rfl rfl, NoRl.set _ _ _ _, wx, hg, rfl⟩
                    · intro sx hs
                      simp only [List.mem_cons, List.not_mem_nil, or_false] at hs
                      rcases hs with rfl | rfl | rfl | rfl | rfl | rfl | rfl | rfl | rfl | rfl | rfl | rfl | rfl | rfl | rfl | rfl | rfl | rfl | rfl | rfl <;> first | exact Or.inl ⟨_, rfl⟩ | exact Or.inr ⟨_, rfl, fun _ _ _ _ _ => trivial⟩
                    · intro xs listed a1 wy hall hxs hJ hR _
                      obtain ⟨w9, hg9, rfl⟩ := hJ.p1 (hall 19 (by exact (show (19 : Nat) < 20 by decide)))
                      have hk9 := (drew_grew wr).trans hg9
                      have HTn : Hid (TbSt w8 (w9.setCell ⟨g0, c, none⟩ (.int .i64 (z2 : Nat))) ob ((List.range p).map P.nx) ((List.range p).map P.en) nv ev (.cells #[nv, ev] 44 (0, 0))) :=
                        (HKS.out.1.kept hk9).same ((HKS.out.1.kept hk9).grew.setCell (p := ⟨g0, c, none⟩) HKS.out.2.2.2 _) (by simp [World.setCell]) fun k hk => q_set_other _ _ (fun e => HKS.out.2.2.1 (e ▸ hk))
                      have HAn : Hid (ArrAt (w9.setCell ⟨g0, c, none⟩ (.int .i64 (z2 : Nat))) g0 0 256 fun j => .int .i64 ((if j < c + 1 then P.nx p j else 0 : Nat) : Int)) := (arr_next (q := z2) hcl (HKS.out.2.1.kept hk9)).congr fun j' _ => by
                        by_cases e : j' = c
                        · subst e; rw [if_pos (by omega), if_pos rfl, if_pos (by omega), HPc.out]
                        · by_cases e2 : j' < c + 1
                          · rw [if_pos e2, if_neg e, if_pos e2]
                          · rw [if_neg e2, if_neg e2]
                      have HFn := hidd HKS.out.2.2
                      simp only [List.foldl_cons, List.foldl_nil, List.setIfInBounds_toArray, List.set_cons_succ, List.set_cons_zero]
                      clear hall hxs hJ hR hg9 hk9 r1 r2 r3 r4 cr cf HKS
                      go_wp2_with fail
                      exact ⟨⟨c + 1, by simp, by omega, HTn.out, HAn.out, HFn.out⟩, by simp [intOf]; omega⟩
                  · obtain rfl : c = 256 := by omega
                    have kc : decide ((256 : Int) < 256) = false := rfl
                    have HAr : Hid (ArrAt wr g0 0 256 fun j => .int .i64 (P.nx p j : Nat)) := KS.out.2.1.congr fun j hj => by rw [if_pos hj]
                    have hrl : ((List.range p).map P.nx).length = p := by rw [List.length_map, List.length_range]
                    have hpq : p < q := by rw [← HPk.out, ← HQ.out]; exact pair_lt hil hkl
                    have ho0 := (two_cells KS.out.1.raw).1.1
                    obtain ⟨rv', w7, hap, ⟨va, vc, rfl⟩, hS7⟩ := KS.out.1.pushRow (row := P.nx p) (by rw [hrl]; omega) 42
                    rw [hrl] at hap hS7
                    rw [show (List.range p).map P.nx ++ [P.nx p] = (List.range (p + 1)).map P.nx by rw [List.range_succ, List.map_append]; rfl] at hS7
                    obtain ⟨⟨ho7, _⟩, hf7⟩ := two_cells hS7.raw
                    have hof7 := hf7 0
                    have HS8 : Hid (TbSt w8 (w7.setCell ⟨ob, 0, none⟩ (.slice va (p + 1) vc)) ob ((List.range (p + 1)).map P.nx) ((List.range p).map P.en) (.slice va (p + 1) vc) ev (.cells #[.slice va (p + 1) vc, ev] 44 (0, 0))) := hS7.setRaw 0 _
                    clear hS7 KS hf7
                    go_wp2_with (first | (refine wpList_load_row rfl rfl rfl HAr.out ?_) | (refine wpList_build_row rfl rfl rfl ?_) | (at_builtin; refine wpList_append_eq rfl rfl rfl rfl hap ?_))
                    clear hap HAr ho0 ho7 hof7
                    generalize w7.setCell ⟨ob, 0, none⟩ (.slice va (p + 1) vc) = wz at HS8 ⊢
                    have hSd := HS8.out.kept (drew_grew wz)
                    have hr := hSd.raw
                    have hobl := (Array.getElem?_eq_some_iff.1 hr).1
                    obtain ⟨⟨_, hcq⟩, hfqa⟩ := two_cells hr
                    have hfq := hfqa 1
                    obtain ⟨ow, how⟩ : ∃ ow, ev.ownBlock = ow := ⟨_, rfl⟩
                    have hoq : ow ≠ some ob := by rw [← how]; exact fun e => (hSd.owne _ e).1 rfl
                    have hol3 : ∀ k, ow = some k → k < wz.drew.heap.size := by rw [← how]; exact fun k e => (hSd.owne k e).2.2
                    have hold : ∀ (b : Nat) (o : Nat) (v : Value), w8.cell? ⟨b, o, none⟩ = some v → ∀ wx, ApRl ⟨ob, 1, none⟩ ow wz.drew wx → wx.cell? ⟨b, o, none⟩ = some v := fun b o v h wx g => by
                      have hb : b < w8.heap.size := lt_of_cell h
                      have hlo := hSd.lo
                      rw [g.2 ⟨b, o, none⟩ (Nat.lt_of_lt_of_le hb hSd.grew.size) (fun e => by rw [← how] at e; have := (hSd.owne _ e).2.1; simp only at this; omega) (fun e => by have := congrArg Addr.block e; simp only at this; omega)]
                      exact hSd.grew.keeps h
                    have q10 := (two_cells H10.out).1.2
                    have q11 := (two_cells H11.out).1.2
                    rw [HN.out.1] at q10
                    rw [HN.out.2] at q11
                    obtain ⟨x, hx⟩ : ∃ x, A.ends.getD i false = x := ⟨_, rfl⟩
                    obtain ⟨y, hy⟩ : ∃ y, B.ends.getD k false = y := ⟨_, rfl⟩
                    have q5 := HE8.out.1 i (by rw [HN.out.1]; exact hil)
                    have q6 := HE8.out.2 k (by rw [HN.out.2]; exact hkl)
                    rw [hx] at q5
                    rw [hy] at q6
                    have l_k10 := fun wx g => load_one agg_boolsl (hold _ _ _ q10 wx g)
                    have l_k11 := fun wx g => load_one agg_boolsl (hold _ _ _ q11 wx g)
                    have l_u5 := fun wx g => load_one agg_bool (hold _ _ _ q5 wx g)
                    have l_u6 := fun wx g => load_one agg_bool (hold _ _ _ q6 wx g)
                    obtain ⟨z, hz⟩ : ∃ z, ((both && x && y) || (!both && (x || y))) = z := ⟨_, rfl⟩
                    have x_i1 : ∀ wx, (Instr.indexAt 24 (.slice (some ⟨eb, eo, none⟩) n ec) (.int .i64 (i : Nat))).run Try.prog wx = .ok (.pointer (some ⟨eb, eo + i, none⟩)) wx := fun wx => by
                      have := index_sl (sz := 1) Try.underlying24 (by kernel_rfl) (fun w => size_of (by kernel_rfl) w) (b := eb) (o := eo) (c := ec) hil wx
                      rwa [Nat.mul_one] at this
                    have x_i2 : ∀ wx, (Instr.indexAt 24 (.slice (some ⟨eb', eo', none⟩) m ec') (.int .i64 (k : Nat))).run Try.prog wx = .ok (.pointer (some ⟨eb', eo' + k, none⟩)) wx := fun wx => by
                      have := index_sl (sz := 1) Try.underlying24 (by kernel_rfl) (fun w => size_of (by kernel_rfl) w) (b := eb') (o := eo') (c := ec') hkl wx
                      rwa [Nat.mul_one] at this
                    have not_run : ∀ (b : Bool) (w : World), (Op.unary UnOp.not (.bool b)).run Try.prog w = .ok (.bool (!b)) w := fun b w => by cases b <;> rfl
                    have HXY := hidd (And.intro hx (And.intro hy hz))
                    refine RR.region_frame (J := ApJ wz.drew ⟨ob, 1, none⟩ ow (EndApp w8 wz.drew ev (((List.range p).map P.en).length + 1) (((List.range p).map P.en).map Value.bool ++ [.bool ((both && x && y) || (!both && (x || y)))])) [35] 1 36 38 123) (Rl := ApRl ⟨ob, 1, none⟩ ow) [87, 88, 89, 90, 91, 92, 93, 94, 95, 96, 97, 98, 99, 100, 101, 102, 103, 104, 105, 106, 107, 108, 109, 110, 111, 112, 113, 114, 115, 116, 117, 118, 119, 120, 121, 122, 123, 124] mixed (ApRl.drew _ _) ApRl.trans
                        [.val (.pointer (some ⟨ob, 1, none⟩)), .val (ev), .val (.bool both), .val (.bool both), .val (if both = true then .pointer (some ⟨k10, 1, none⟩) else undef), .val (if both = true then .slice (some ⟨eb, eo, none⟩) n ec else undef), .val (if both = true then .int .i64 (i : Nat) else undef), .val (if both = true then .pointer (some ⟨eb, eo + i, none⟩) else undef), .val (if both = true then .bool x else undef), .val (.bool (both && x)), .val (.bool (both && x)), .val (if (both && x) = true then .pointer (some ⟨k11, 1, none⟩) else undef), .val (if (both && x) = true then .slice (some ⟨eb', eo', none⟩) m ec' else undef), .val (if (both && x) = true then .int .i64 (k : Nat) else undef), .val (if (both && x) = true then .pointer (some ⟨eb', eo' + k, none⟩) else undef), .val (if (both && x) = true then .bool y else undef), .val (.bool (both && x && y)), .val (.bool (both && x && y)), .val (if (!(both && x && y)) = true then .bool both else undef), .val (if (!(both && x && y)) = true then .bool (!both) else undef), .val (if (!(both && x && y)) = true then .bool (!both) else undef), .val (if ((!(both && x && y)) && (!both)) = true then .pointer (some ⟨k10, 1, none⟩) else undef), .val (if ((!(both && x && y)) && (!both)) = true then .slice (some ⟨eb, eo, none⟩) n ec else undef), .val (if ((!(both && x && y)) && (!both)) = true then .int .i64 (i : Nat) else undef), .val (if ((!(both && x && y)) && (!both)) = true then .pointer (some ⟨eb, eo + i, none⟩) else undef), .val (if ((!(both && x && y)) && (!both)) = true then .bool x else undef), .val (if ((!(both && x && y)) && (!both)) = true then .bool x else undef), .val (if ((!(both && x && y)) && (!both) && (!x)) = true then .pointer (some ⟨k11, 1, none⟩) else undef), .val (if ((!(both && x && y)) && (!both) && (!x)) = true then .slice (some ⟨eb', eo', none⟩) m ec' else undef), .val (if ((!(both && x && y)) && (!both) && (!x)) = true then .int .i64 (k : Nat) else undef), .val (if ((!(both && x && y)) && (!both) && (!x)) = true then .pointer (some ⟨eb', eo' + k, none⟩) else undef), .val (if ((!(both && x && y)) && (!both) && (!x)) = true then .bool y else undef), .val (if ((!(both && x && y)) && (!both)) = true then .bool (x || y) else undef), .val (if (!(both && x && y)) = true then .bool ((!both) && (x || y)) else undef), .val (.bool ((both && x && y) || (!both && (x || y)))), .fact (OneNew wz.drew (.bool ((both && x && y) || (!both && (x || y))))), .fact fun _ _ => True, .val (.pointer (some ⟨ob, 1, none⟩)), .fact fun _ _ => True]
                        (ap_start _ _) (ap_mono ?_) (by kernel_rfl) (by kernel_rfl)
                        ⟨gj_field (field_tab1 ob) (by decide) (by decide) (by decide) (by kernel_rfl) rfl rfl,
                          gj_row (wb := wz.drew) agg_boolsl hcq hoq (by decide) (by decide) (by decide) (by kernel_rfl) rfl rfl,
                          gj_move (by decide) (by decide) (by decide) (by kernel_rfl) rfl rfl,
                          gj_move (by decide) (by decide) (by decide) (by kernel_rfl) rfl rfl,
                          (by cases both <;> cases x <;> cases y <;> first | exact gj_skip (by decide) (by decide) (by decide) (by kernel_rfl) rfl | exact gj_field (field_tab1 k10) (by decide) (by decide) (by decide) (by kernel_rfl) rfl rfl),
                          (by cases both <;> cases x <;> cases y <;> first | exact gj_skip (by decide) (by decide) (by decide) (by kernel_rfl) rfl | exact gj_load (p := ⟨k10, 1, none⟩) l_k10 (by decide) (by decide) (by decide) (by kernel_rfl) rfl rfl),
                          (by cases both <;> cases x <;> cases y <;> first | exact gj_skip (by decide) (by decide) (by decide) (by kernel_rfl) rfl | exact gj_move (by decide) (by decide) (by decide) (by kernel_rfl) rfl rfl),
                          (by cases both <;> cases x <;> cases y <;> first | exact gj_skip (by decide) (by decide) (by decide) (by kernel_rfl) rfl | exact gj_index x_i1 (by decide) (by decide) (by decide) (by kernel_rfl) rfl rfl rfl),
                          (by cases both <;> cases x <;> cases y <;> first | exact gj_skip (by decide) (by decide) (by decide) (by kernel_rfl) rfl | exact gj_load l_u5 (by decide) (by decide) (by decide) (by kernel_rfl) rfl rfl),
                          (by cases both <;> cases x <;> cases y <;> exact gj_pick (by decide) (by decide) (by decide) (by kernel_rfl) rfl rfl rfl),
                          gj_move (by decide) (by decide) (by decide) (by kernel_rfl) rfl rfl,
                          (by cases both <;> cases x <;> cases y <;> first | exact gj_skip (by decide) (by decide) (by decide) (by kernel_rfl) rfl | exact gj_field (field_tab1 k11) (by decide) (by decide) (by decide) (by kernel_rfl) rfl rfl),
                          (by cases both <;> cases x <;> cases y <;> first | exact gj_skip (by decide) (by decide) (by decide) (by kernel_rfl) rfl | exact gj_load (p := ⟨k11, 1, none⟩) l_k11 (by decide) (by decide) (by decide) (by kernel_rfl) rfl rfl),
                          (by cases both <;> cases x <;> cases y <;> first | exact gj_skip (by decide) (by decide) (by decide) (by kernel_rfl) rfl | exact gj_move (by decide) (by decide) (by decide) (by kernel_rfl) rfl rfl),
                          (by cases both <;> cases x <;> cases y <;> first | exact gj_skip (by decide) (by decide) (by decide) (by kernel_rfl) rfl | exact gj_index x_i2 (by decide) (by decide) (by decide) (by kernel_rfl) rfl rfl rfl),
                          (by cases both <;> cases x <;> cases y <;> first | exact gj_skip (by decide) (by decide) (by decide) (by kernel_rfl) rfl | exact gj_load l_u6 (by decide) (by decide) (by decide) (by kernel_rfl) rfl rfl),
                          (by cases both <;> cases x <;> cases y <;> exact gj_pick (by decide) (by decide) (by decide) (by kernel_rfl) rfl rfl rfl),
                          gj_move (by decide) (by decide) (by decide) (by kernel_rfl) rfl rfl,
                          (by cases both <;> cases x <;> cases y <;> first | exact gj_skip (by decide) (by decide) (by decide) (by kernel_rfl) rfl | exact gj_move (by decide) (by decide) (by decide) (by kernel_rfl) rfl rfl),
                          (by cases both <;> cases x <;> cases y <;> first | exact gj_skip (by decide) (by decide) (by decide) (by kernel_rfl) rfl | exact gj_not (by decide) (by decide) (by decide) (by kernel_rfl) rfl (fun w => not_run _ w) rfl),
                          (by cases both <;> cases x <;> cases y <;> first | exact gj_skip (by decide) (by decide) (by decide) (by kernel_rfl) rfl | exact gj_move (by decide) (by decide) (by decide) (by kernel_rfl) rfl rfl),
                          (by cases both <;> cases x <;> cases y <;> first | exact gj_skip (by decide) (by decide) (by decide) (by kernel_rfl) rfl | exact gj_field (field_tab1 k10) (by decide) (by decide) (by decide) (by kernel_rfl) rfl rfl),
                          (by cases both <;> cases x <;> cases y <;> first | exact gj_skip (by decide) (by decide) (by decide) (by kernel_rfl) rfl | exact gj_load (p := ⟨k10, 1, none⟩) l_k10 (by decide) (by decide) (by decide) (by kernel_rfl) rfl rfl),
                          (by cases both <;> cases x <;> cases y <;> first | exact gj_skip (by decide) (by decide) (by decide) (by kernel_rfl) rfl | exact gj_move (by decide) (by decide) (by decide) (by kernel_rfl) rfl rfl),
                          (by cases both <;> cases x <;> cases y <;> first | exact gj_skip (by decide) (by decide) (by decide) (by kernel_rfl) rfl | exact gj_index x_i1 (by decide) (by decide) (by decide) (by kernel_rfl) rfl rfl rfl),
                          (by cases both <;> cases x <;> cases y <;> first | exact gj_skip (by decide) (by decide) (by decide) (by kernel_rfl) rfl | exact gj_load l_u5 (by decide) (by decide) (by decide) (by kernel_rfl) rfl rfl),
                          (by cases both <;> cases x <;> cases y <;> first | exact gj_skip (by decide) (by decide) (by decide) (by kernel_rfl) rfl | exact gj_move (by decide) (by decide) (by decide) (by kernel_rfl) rfl rfl),
                          (by cases both <;> cases x <;> cases y <;> first | exact gj_skip (by decide) (by decide) (by decide) (by kernel_rfl) rfl | exact gj_field (field_tab1 k11) (by decide) (by decide) (by decide) (by kernel_rfl) rfl rfl),
                          (by cases both <;> cases x <;> cases y <;> first | exact gj_skip (by decide) (by decide) (by decide) (by kernel_rfl) rfl | exact gj_load (p := ⟨k11, 1, none⟩) l_k11 (by decide) (by decide) (by decide) (by kernel_rfl) rfl rfl),
                          (by cases both <;> cases x <;> cases y <;> first | exact gj_skip (by decide) (by decide) (by decide) (by kernel_rfl) rfl | exact gj_move (by decide) (by decide) (by decide) (by kernel_rfl) rfl rfl),
                          (by cases both <;> cases x <;> cases y <;> first | exact gj_skip (by decide) (by decide) (by decide) (by kernel_rfl) rfl | exact gj_index x_i2 (by decide) (by decide) (by decide) (by kernel_rfl) rfl rfl rfl),
                          (by cases both <;> cases x <;> cases y <;> first | exact gj_skip (by decide) (by decide) (by decide) (by kernel_rfl) rfl | exact gj_load l_u6 (by decide) (by decide) (by decide) (by kernel_rfl) rfl rfl),
                          (by cases both <;> cases x <;> cases y <;> first | exact gj_skip (by decide) (by decide) (by decide) (by kernel_rfl) rfl | exact gj_pick (by decide) (by decide) (by decide) (by kernel_rfl) rfl rfl rfl),
                          (by cases both <;> cases x <;> cases y <;> first | exact gj_skip (by decide) (by decide) (by decide) (by kernel_rfl) rfl | exact gj_pick (by decide) (by decide) (by decide) (by kernel_rfl) rfl rfl rfl),
                          (by cases both <;> cases x <;> cases y <;> exact gj_pick (by decide) (by decide) (by decide) (by kernel_rfl) rfl rfl rfl),
                          gj_one (fun w => build_bool ((both && x && y) || (!both && (x || y))) w) (by decide) (by decide) (by decide) (by decide) (by kernel_rfl) rfl rfl,
                          gj_append (by decide) (by decide) (by exact (show (123 : Nat) < 130 by decide)) (by exact (show (36 : Nat) < 39 by decide)) ?ap (by kernel_rfl) rfl,
                          gj_field (field_tab1 ob) (by decide) (by decide) (by decide) (by kernel_rfl) rfl rfl,
                          gj_store (wb := wz.drew) (by kernel_rfl) (by kernel_rfl) (by decide) hoq rfl ⟨_, hcq⟩ hfq (by exact (show (38 : Nat) < 39 by decide)) ?one (by kernel_rfl) rfl rfl (fun w => size_of (by kernel_rfl) w), trivial⟩ ?_
                    case ap =>
                      intro a1 wx hg E
                      have hv : a1.eval (.tmp 88) = ev := E.opv rfl
                      obtain ⟨kk, hk1, hk2, hk3⟩ : OneNew wz.drew (.bool ((both && x && y) || (!both && (x || y)))) (a1.eval (.tmp 122)) wx := E.op (.tmp 122)
                      rw [hv, hk1, ← how]
                      exact hSd.endRun hg (by rw [List.length_map, List.length_range]; omega) hk3 1 _
                    case one =>
                      intro v wx hA
                      obtain ⟨⟨_, va, vc, e, _⟩, _⟩ := hA
                      rw [e]; exact ⟨rfl, rfl⟩
                    · intro sx hs
                      simp only [List.mem_cons, List.not_mem_nil, or_false] at hs
                      rcases hs with rfl | rfl | rfl | rfl | rfl | rfl | rfl | rfl | rfl | rfl | rfl | rfl | rfl | rfl | rfl | rfl | rfl | rfl | rfl | rfl | rfl | rfl | rfl | rfl | rfl | rfl | rfl | rfl | rfl | rfl | rfl | rfl | rfl | rfl | rfl | rfl | rfl | rfl | rfl <;> first | exact Or.inl ⟨_, rfl⟩ | exact Or.inr ⟨_, rfl, OneNew.mono hobl hol3⟩ | exact Or.inr ⟨_, rfl, fun _ _ _ _ _ => trivial⟩
                    · intro xs listed a1 wy hall hxs hJ hR _
                      obtain ⟨v, w9, hA, hg, rfl⟩ := hJ.p2 (hall 38 (by exact (show (38 : Nat) < 39 by decide)))
                      rw [← how] at hg
                      have hE2 := hSd.pushEnd hA hg rfl (o := 1)
                      have hen : P.en p = ((both && x && y) || (!both && (x || y))) := by
                        rw [← HP.out, ← HPk.out]
                        show (if both = true then (raA A).en ((i * m + k) / (raA B).n) && (raA B).en ((i * m + k) % (raA B).n) else (raA A).en ((i * m + k) / (raA B).n) || (raA B).en ((i * m + k) % (raA B).n)) = _
                        rw [show (raA B).n = m from HN.out.2, (pair_at hkl).1, (pair_at hkl).2, show (raA A).en i = x from HXY.out.1, show (raA B).en k = y from HXY.out.2.1]
                        cases both <;> cases x <;> cases y <;> rfl
                      have HE2 : Hid (∃ nv ev, TbSt w8 (w9.setCell ⟨ob, 1, none⟩ v) ob ((List.range (i * m + (k + 1))).map P.nx) ((List.range (i * m + (k + 1))).map P.en) nv ev (.cells #[nv, ev] 44 (0, 0))) := by
                        refine ⟨.slice va (p + 1) vc, v, ?_⟩
                        rw [show i * m + (k + 1) = p + 1 by rw [← HPk.out]; omega, show (List.range (p + 1)).map P.en = (List.range p).map P.en ++ [((both && x && y) || (!both && (x || y)))] by rw [List.range_succ, List.map_append, List.map_singleton, hen]]
                        exact hE2
                      simp only [List.foldl_cons, List.foldl_nil, List.setIfInBounds_toArray, List.set_cons_succ, List.set_cons_zero]
                      clear hall hxs hJ hR hA hg hSd hr hobl hcq hfqa hfq how hoq hol3 hold q10 q11 q5 q6 l_k10 l_k11 l_u5 l_u6 x_i1 x_i2 not_run hE2 hen
                      go_wp2_with fail
                      exact ⟨⟨k + 1, by simp, by omega, HE2.out⟩, by simp [intOf]; omega⟩
              · have hkm : k = m := by omega
                subst hkm
                have kk : decide ((k : Int) < (k : Int)) = false := decide_eq_false (by omega)
                have HN1 : Hid (∃ nv ev, TbSt w8 wr ob ((List.range ((i + 1) * k)).map P.nx) ((List.range ((i + 1) * k)).map P.en) nv ev (.cells #[nv, ev] 44 (0, 0))) := ⟨nv, ev, by rw [Nat.succ_mul]; exact hS⟩
                clear JS hS
                go_wp2_with fail
                exact ⟨⟨i + 1, by simp, by omega, HN1.out⟩, by simp [intOf]; omega⟩
          · have hie : i = n := by omega
            subst hie
            have ki : decide ((i : Int) < (i : Int)) = false := decide_eq_false (by omega)
            have HO9 := hidd hS.raw
            have HT9 := hidd hS
            clear hS KS
            go_wp2_with (refine wpList_load_tab (b := ob) rfl rfl rfl HO9.out rfl ?_)
            have HPn : Hid (P.n = i * m) := by rw [← HP.out]; show A.next.length * B.next.length = _; rw [HN.out.1, HN.out.2]
            have HPo : Hid P.Ok := by rw [← HP.out]; exact pair_ok (HRa.out.ok HAc.out.1) (HRb.out.ok HAc.out.2) _
            have hpm : 0 < i * m := by rw [← HPn.out]; exact HPo.out.pos
            have HT : Hid (TabIn wr P (.agg #[nv, ev])) := by
              obtain ⟨rb, ro, rc, eb2, eo2, ec2, e, h1, h2⟩ := HT9.out.table (by rw [List.length_map, List.length_range]; exact hpm) (by rw [List.length_map, List.length_map])
              have hl : ((List.range (i * m)).map P.nx).length = i * m := by rw [List.length_map, List.length_range]
              refine ⟨rb, ro, rc, eb2, eo2, ec2, by rw [e, HPn.out]; show Value.agg #[.slice _ ((List.range (i * m)).map P.nx).length _, .slice _ ((List.range (i * m)).map P.nx).length _] = _; rw [hl], fun s c hs hc => ?_, fun s hs => ?_⟩
              · rw [HPn.out] at hs
                rw [h1 s c (by show s < ((List.range (i * m)).map P.nx).length; rw [hl]; exact hs) hc]
                show some (Value.int .i64 ((((List.range (i * m)).map P.nx).getD s fun _ => 0) c : Nat)) = _
                rw [getD_map_range _ hs]
              · rw [HPn.out] at hs
                rw [h2 s (by show s < ((List.range (i * m)).map P.nx).length; rw [hl]; exact hs)]
                show some (Value.bool (((List.range (i * m)).map P.en).getD s false)) = _
                rw [getD_map_range _ hs]
            have h9q : P.n ≤ 8192 := by rw [HPn.out, HQ.out]; omega
            refine (Reached_any P _ _ HPo.out h9q HT.out).mono ?_
            rintro e w10 ⟨S, v7, rfl, sOk, sN, sE, sT, g7⟩
            have HSk := hidd (And.intro sOk (And.intro (Nat.le_trans sN h9q) (And.intro sE sT)))
            have HG10 := hidd ((HG8.out.trans HT9.out.grew).trans g7)
            have HR10 := hidd (heap_kept (HT9.out.grew.trans g7) HR8.out)
            clear sOk sN sE sT g7 HT
            go_wp2_with fail
            refine (HSm.out S v7 w10 HSk.out.1 HSk.out.2.1 HSk.out.2.2.2).mono ?_
            rintro e w11 ⟨D, nb, nbc, eb2, ebc, rfl, hL8, hA8, g8⟩
            have HG11 := hidd (HG10.out.trans g8)
            have HR11 := hidd (heap_kept g8 HR10.out)
            have HA11 := hidd (And.intro hL8 hA8)
            have HRl := hidd (lt_of_block HR10.out)
            clear hL8 hA8 g8
            have HB11 := hidd (And.intro (autB_size D nb nbc eb2 ebc) (autB_one D nb nbc eb2 ebc))
            obtain ⟨dv, hdv⟩ : ∃ dv, autB D nb nbc eb2 ebc = dv := ⟨_, rfl⟩
            have HDv := hidd hdv
            rw [hdv] at HB11
            simp only [hdv]
            clear hdv
            go_wp2_with (refine wpList_store_aut (b := rs) rfl rfl rfl rfl HR11.out zAut_size HB11.out.1 HB11.out.2 ?_)
            refine bodyPost_ret (results_aut2 (p := 6) (q := 7) rfl rfl rfl (setRow_heap w11 rs _ dv _ _ HR11.out) HB11.out.1) rfl ⟨D, nb, nbc, eb2, ebc, by rw [HDv.out, HEr.out]; rfl, ?_, setRow_grew HG11.out HRs.out _, fun h => absurd HEr.out h, fun _ => ⟨S, HSk.out.2.1, fun l => ?_, HA11.out.1⟩⟩
            · have hrl := HRl.out
              have hrs := HRs.out
              exact HA11.out.2.set (by omega) hrl _
            · rw [HSk.out.2.2.1 l, ← HP.out, pair_tak (HRa.out.ok HAc.out.1) (HRb.out.ok HAc.out.2), ← HLg.out]
    · have k1 : (err != 0) = true := by simpa using h0
      have HEr : Hid (twoErr A B = err) := by unfold twoErr; rw [if_neg (fun h => h HE.out), HE'.out, if_pos h0]; exact rfl
      have HE0 := hidd h0
      clear h0
      go_wp2_with (first | (refine wpList_build_aut rfl rfl ?_) | (refine wpList_store_aut (b := rs) rfl rfl rfl rfl HR2.out zAut_size zAut_size zAut_one ?_))
      exact bodyPost_ret (results_aut2 (p := 6) (q := 7) rfl rfl rfl (setRow_heap w2 rs _ zAut _ _ HR2.out) zAut_size) rfl ⟨zeroA, none, 0, none, 0, by rw [zeroA_B, HEr.out]; rfl, fun w'' _ _ => zeroA_at w'', setRow_grew HG2.out HRs.out _, fun _ => rfl, fun h => absurd (HEr.out.symm.trans h) HE0.out⟩
  · have k1 : (err != 0) = true := by simpa using h0
    have HEr : Hid (twoErr A B = err) := by unfold twoErr; rw [HE.out, if_pos h0]; exact rfl
    have HE0 := hidd h0
    clear h0
    go_wp2_with (first | (refine wpList_build_aut rfl rfl ?_) | (refine wpList_store_aut (b := rs) rfl rfl rfl rfl HR1.out zAut_size zAut_size zAut_one ?_))
    exact bodyPost_ret (results_aut2 (p := 6) (q := 7) rfl rfl rfl (setRow_heap w1 rs _ zAut _ _ HR1.out) zAut_size) rfl ⟨zeroA, none, 0, none, 0, by rw [zeroA_B, HEr.out]; rfl, fun w'' _ _ => zeroA_at w'', setRow_grew HG1.out HRs.out _, fun _ => rfl, fun h => absurd (HEr.out.symm.trans h) HE0.out⟩
end Go.Proofs.Ytkkdpafkafjfgaa
