/- (*places).build at texts and at so many bytes. Printed by gen-glv.py. -/
import Derived.Test.YtkkdpafkafjfgaaDoorMkPGlS
namespace Go.Proofs.YtkkdpafkafjfgaaDoor
open Go.RowKit RR
set_option linter.unusedVariables false
set_option linter.unusedSimpArgs false
set_option maxRecDepth 100000
theorem info_set4 : (Tryd.prog.info? 77).map (·.size) = some 4 := by kernel_rfl
section
variable {ops : Array Oper} {rest : List Oper} {o : Oper} {a : Act} {w : World} {Q : Exit → Act → World → Prop}
theorem wpList_store_set (hgd : o.guard = none) {x y : Operand} (ho : o.op = .store 77 x y) {b : Nat} {old av : Array Value} (hx : a.eval x = .pointer (some ⟨b, 0, none⟩)) (hy : a.eval y = .agg av) (hb : w.heap[b]? = some (.cells old 77 (0, 0))) (h1 : old.size = 4) (h2 : av.size = 4) (h3 : av.all (·.oneCell') = true)
    (h : wpList Tryd.prog ops Q rest (a.put o.dst undef) (w.setRow b av)) : wpList Tryd.prog ops Q (o :: rest) a w := by
  refine wpList_plain hgd fun _ hK => ?_
  unfold Oper.wp execOp
  simp only [ho, hx, hy, Instr.storeAt, Instr.sureAddr, Sem.run_bind, Sem.run_pure, Result.andThen_ok, run_storeVar_row w b _ _ _ _ hb (by rw [h2]; exact info_set4) (by rw [h1, h2]) h3]
  exact hK _ _ h
theorem wpList_load_set (hgd : o.guard = none) {x : Operand} (ho : o.op = .load 77 x) {b : Nat} {av : Array Value} (hx : a.eval x = .pointer (some ⟨b, 0, none⟩)) (hb : w.heap[b]? = some (.cells av 77 (0, 0))) (h1 : av.size = 4)
    (h : wpList Tryd.prog ops Q rest (a.put o.dst (.agg av)) w) : wpList Tryd.prog ops Q (o :: rest) a w := by
  refine wpList_plain hgd fun _ hK => ?_
  have hl := run_loadVar_row (P := Tryd.prog) w b 77 77 av (0, 0) _ hb Tryd.underlying77 rfl (by rw [h1]; exact info_set4)
  unfold Oper.wp execOp
  simp only [ho, hx, Instr.loadAt, Instr.sureAddr, Sem.run_bind, Sem.run_pure, Result.andThen_ok, hl]
  exact hK _ _ h
end
theorem set_one (s : Nat → Bool) : (setC s).toArray.all (·.oneCell') = true := by
  unfold setC; simp [Value.oneCell']
theorem load_part {w : World} {b : Nat} {o : Part} (h : w.heap[b]? = some (.cells (partC o) 69 (0, 0))) : (Instr.loadAt 69 (.pointer (some ⟨b, 0, none⟩))).run Tryd.prog w = .ok (partV o) w := by
  have hl := run_loadVar_row (P := Tryd.prog) w b 69 69 (partC o) (0, 0) _ h Tryd.underlying69 rfl info_part
  simp only [Instr.loadAt, Instr.sureAddr, Sem.run_bind, Sem.run_pure, Result.andThen_ok, hl]
  rfl
theorem store_part {w : World} {b : Nat} {o o' : Part} (h : w.heap[b]? = some (.cells (partC o) 69 (0, 0))) : (Instr.storeAt 69 (.pointer (some ⟨b, 0, none⟩)) (partV o')).run Tryd.prog w = .ok () (w.setRow b (partC o')) := by
  have hl := run_storeVar_row (P := Tryd.prog) w b 69 69 (partC o) (partC o') h info_part rfl (part_one _)
  unfold partV
  simp only [Instr.storeAt, Instr.sureAddr, Sem.run_bind, Sem.run_pure, Result.andThen_ok, hl]
structure LitSt (R : Part × Gl) (ls : List (Nat → Bool)) (i : Nat) (w w0 wr : World) (ob : Nat) (F : Nat → Prop) (rs ts : Nat) (o : Part) (g : Gl) (F' : Nat → Prop) : Prop where
  rest : litG (ls.drop i) o g = R
  inn : InG g o
  gl : GlAt w wr ob g F'
  to : GlTo w0 wr F F'
  res : wr.heap[rs]? = some (.cells (partC o) 69 (0, 0))
  all : wr.heap[ts]? = some (.cells (setC allB).toArray 77 (0, 0))
  nr : ¬ F' rs
  ns : ¬ F' ts
theorem LitSt.kept {R : Part × Gl} {ls : List (Nat → Bool)} {i : Nat} {w w0 wr wr' : World} {ob : Nat} {F : Nat → Prop} {rs ts : Nat} {o : Part} {g : Gl} {F' : Nat → Prop} (h : LitSt R ls i w w0 wr ob F rs ts o g F') (k : Grew wr wr') : LitSt R ls i w w0 wr' ob F rs ts o g F' :=
  ⟨h.rest, h.inn, h.gl.kept k, h.to.trans (GlTo.grew k F'), heap_kept k h.res, heap_kept k h.all, h.nr, h.ns⟩
theorem LitSt.next {R : Part × Gl} {ls : List (Nat → Bool)} {i : Nat} {w w0 wr wn : World} {ob : Nat} {F : Nat → Prop} {rs ts : Nat} {o : Part} {g : Gl} {F' F2 : Nat → Prop} (h : LitSt R ls i w w0 wr ob F rs ts o g F') (hm : g.much = false) {s : Nat → Bool} (hs : ls[i]? = some s) (hts : ts < wr.heap.size) (hrt : rs ≠ ts) (hlo : w.heap.size ≤ rs) (hrs : w0.heap.size ≤ rs)
    (h1 : GlAt w wn ob ((g.one s).2.join o.last (g.one s).1.first) F2) (h2 : GlTo wr wn F' F2) (hrl : rs < wr.heap.size) : LitSt R ls (i + 1) w w0 (wn.setRow rs (partC (thenP o (g.one s).1))) ob F rs ts (thenP o (g.one s).1) ((g.one s).2.join o.last (g.one s).1.first) F2 := by
  have hil : i < ls.length := (List.getElem?_eq_some_iff.1 hs).1
  have hd : ls.drop i = s :: ls.drop (i + 1) := by
    rw [List.drop_eq_getElem_cons hil]
    congr 1
    have := List.getElem?_eq_getElem hil
    rw [hs] at this; exact (Option.some.inj this).symm
  have hr := h.rest
  rw [hd, litG, hm] at hr
  have n1 := h2.not hrl h.nr
  have n2 := h2.not hts h.ns
  refine ⟨hr, op2_in (c := true) (h.inn.mono (one_in g s).1) (one_in g s).2, h1.setRow n1 hlo _, (h.to.trans h2).setRow hrs _, setRow_heap _ _ _ _ _ _ ((h2.out rs hrl h.nr).trans h.res), ?_, n1, n2⟩
  rw [setRow_other _ _ _ _ (Ne.symm hrt)]
  exact (h2.out ts hts h.ns).trans h.all
theorem LitSt.setRow {R : Part × Gl} {ls : List (Nat → Bool)} {i : Nat} {w w0 wr : World} {ob : Nat} {F : Nat → Prop} {rs ts : Nat} {o : Part} {g : Gl} {F' : Nat → Prop} (h : LitSt R ls i w w0 wr ob F rs ts o g F') {k : Nat} (hk : ¬ F' k) (h1 : k ≠ rs) (h2 : k ≠ ts) (h3 : w.heap.size ≤ k) (h4 : w0.heap.size ≤ k) (cs : Array Value) : LitSt R ls i w w0 (wr.setRow k cs) ob F rs ts o g F' :=
  ⟨h.rest, h.inn, h.gl.setRow hk h3 cs, h.to.setRow h4 cs, (setRow_other _ _ _ _ (Ne.symm h1)).trans h.res, (setRow_other _ _ _ _ (Ne.symm h2)).trans h.all, h.nr, h.ns⟩
def Sq1 (w W2 : World) (ob : Nat) (g1 : Gl) (F1 : Nat → Prop) (s : Nat → Bool) (w' : World) : Prop := ∃ F2, GlAt w w' ob (g1.one s).2 F2 ∧ GlTo W2 w' F1 F2
def Sq2 (w W2 : World) (ob : Nat) (g1 : Gl) (F1 : Nat → Prop) (s : Nat → Bool) (o1 : Part) (w' : World) : Prop := ∃ F2, GlAt w w' ob ((g1.one s).2.join o1.last (g1.one s).1.first) F2 ∧ GlTo W2 w' F1 F2
def Sq3 (w W2 : World) (ob : Nat) (g1 : Gl) (F1 : Nat → Prop) (s : Nat → Bool) (o1 : Part) (rs : Nat) (w' : World) : Prop := ∃ w3, Sq2 w W2 ob g1 F1 s o1 w3 ∧ w' = w3.setRow rs (partC (thenP o1 (g1.one s).1))
theorem sq_kept {w W2 : World} {ob : Nat} {g1 : Gl} {F1 : Nat → Prop} {s : Nat → Bool} {o1 : Part} {w' : World} (h : w' = W2.drew ∨ Sq1 w W2 ob g1 F1 s w' ∨ Sq2 w W2 ob g1 F1 s o1 w') {k : Nat} (hk : k < W2.heap.size) (hF : ¬ F1 k) : w'.heap[k]? = W2.heap[k]? := by
  rcases h with rfl | ⟨F2, _, h⟩ | ⟨F2, _, h⟩
  · rfl
  · exact h.out k hk hF
  · exact h.out k hk hF
set_option maxHeartbeats 4000000 in
theorem build_k2 (t : ByteArray) (n : Int) (m : ByteArray) (l : List Pat) (b o : Nat) (kv : Value) (w : World) (h : BuildIn (.mk 2 t n m l) b o kv w) (w0 : World) (ob : Nat) (g : Gl) (F : Nat → Prop) (hG : GlAt w w0 ob g F) :
    Calls Tryd.prog 26 #[.pointer (some ⟨ob, 0, none⟩), .pointer (some ⟨b, o, none⟩)] w0 (BuildTo (buildP (.mk 2 t n m l) g) w w0 ob F) := by
  have hz := zero_part
  have hz2 := zero_set
  obtain ⟨R, hR⟩ : ∃ R, litG (litsOf 2 t n) ⟨0, 0, true⟩ g = R := ⟨_, rfl⟩
  have HR : Hid (buildP (.mk 2 t n m l) g = someG R) := by unfold Hid; rw [buildP_eq, ← hR]; rfl
  have HRe := hidd hR
  have hn0 : 0 ≤ n ∧ n ≤ 65536 := by have := h.fit; rw [fitP] at this; exact this.2.1 rfl
  obtain ⟨N, rfl⟩ : ∃ N : Nat, n = N := ⟨n.toNat, by omega⟩
  have hN6 : N ≤ 65536 := by omega
  have HLs : Hid (∀ i, i < N → (litsOf 2 t (N : Int))[i]? = some allB) := fun i hi => by
    show (List.replicate (N : Int).toNat allB)[i]? = _
    rw [List.getElem?_replicate, if_pos (by simpa using hi)]
  have HLn : Hid ((litsOf 2 t (N : Int)).length = N) := by show (List.replicate (N : Int).toNat allB).length = N; rw [List.length_replicate]; simp
  have HP : Hid (∀ w2, Grew (w0.alloc (.cells (partC part0) 69)) w2 → _) := fun w2 g2 => build_pre h.node hG g2
  have HN := hidd (Not_none (w0.alloc (.cells (partC part0) 69)))
  have HT := hidd h.tab
  have HNd := hidd h.node
  obtain ⟨rs, hrs⟩ : ∃ rs, w0.heap.size = rs := ⟨_, rfl⟩
  rw [hrs] at HP
  have HRs := hidd hrs
  generalize hls : litsOf 2 t (N : Int) = ls at *
  clear h hG hR hls hn0
  go_enter Tryd.func26, Tryd.ntmps26
  go_wp2_with fail
  refine HN.out.mono ?_; rintro e w2 ⟨rfl, g2⟩
  have hp := HP.out w2 g2
  have HPx := hidd hp
  obtain ⟨ts, hts⟩ : ∃ ts, w2.heap.size = ts := ⟨_, rfl⟩
  have c0 : ∀ x, (w2.alloc x).cell? ⟨b, o, none⟩ = some (.int .i64 2) := fun x => (hp.node x).c0
  have r2 : ∀ x, (w2.alloc x).cell? ⟨rs, 2, none⟩ = some (.bool false) := fun x => cell_of (hp.res x) 2
  have f2 : ∀ x, (w2.alloc x).frozen? ⟨rs, 2, none⟩ = false := fun x => by unfold World.frozen?; dsimp only; rw [hp.res x]; simp
  have hbr : ∀ x, b < (w2.alloc x).heap.size := fun x => (hp.node x).lt
  have hbw : b < w.heap.size := HNd.out.lt
  have hbne : b ≠ rs := by have := hp.lo; have := hp.lr; omega
  have d0 : ∀ x v, ((w2.alloc x).setCell ⟨rs, 2, none⟩ v).cell? ⟨b, o, none⟩ = some (.int .i64 2) := fun x v => by rw [World.cell?_of_block (q_set_other _ _ (Ne.symm hbne))]; exact c0 x
  have d1 : ∀ x v, ((w2.alloc x).setCell ⟨rs, 2, none⟩ v).cell? ⟨b, o + 1, none⟩ = some (.string t) := fun x v => by rw [World.cell?_of_block (q_set_other _ _ (Ne.symm hbne))]; exact (hp.node x).c1
  have d2 : ∀ x v, ((w2.alloc x).setCell ⟨rs, 2, none⟩ v).cell? ⟨b, o + 2, none⟩ = some (.int .i64 (N : Int)) := fun x v => by rw [World.cell?_of_block (q_set_other _ _ (Ne.symm hbne))]; exact (hp.node x).c2
  have HSt : Hid (LitSt R ls 0 w w0 ((w2.alloc (.cells (setC allB).toArray 77)).setCell ⟨rs, 2, none⟩ (.bool true)) ob F rs ts ⟨0, 0, true⟩ g F) := by
    refine ⟨HRe.out, in0 g true, (hp.gl _).setOther hp.hr (by have := hp.lo; have := hp.lr; omega) _, ?_, ?_, ?_, hp.hr, by rw [← hts]; exact hp.hs⟩
    · have ht := hp.to (.cells (setC allB).toArray 77)
      exact ⟨by rw [show ((w2.alloc (.cells (setC allB).toArray 77)).setCell ⟨rs, 2, none⟩ (.bool true)).heap.size = (w2.alloc (.cells (setC allB).toArray 77)).heap.size by simp [World.setCell]]; exact ht.size, fun k h1 h2 => (q_set_other _ _ (by omega)).trans (ht.out k h1 h2), ht.new⟩
    · rw [q_set_same (hp.res _)]; rfl
    · rw [q_set_other _ _ (by have := hp.ls; omega), ← hts]; exact heap_alloc_new w2 _
  have HTs : Hid (rs < ts) := by have := hp.ls; rw [hts] at this; exact this
  have HW : Hid (w.heap.size ≤ w0.heap.size ∧ w0.heap.size ≤ rs) := ⟨hp.lo, hp.lr⟩
  clear hp HP HN g2 hrs HRe hbr
  unfold setV
  go_wp2_with fail
  go_loopw [8, 9] (fun s8 s9 wr => ∃ i : Nat, s8 = .int .i64 (i : Nat) ∧ i ≤ N ∧ Hid (∃ o g F', LitSt R ls i w w0 wr ob F rs ts o g F')) (fun s8 _ _ => N - (intOf s8).toNat)
  case atStart => exact ⟨0, rfl, by omega, _, _, _, HSt.out⟩
  case round =>
    obtain ⟨i, rfl, hi, KS⟩ := hrel
    clear HSt c0 r2 f2 d0 d1 d2
    obtain ⟨o1, g1, F1, hS⟩ := KS.out
    clear KS
    have cm : wr.cell? ⟨ob, 2, none⟩ = some (.bool g1.much) := by
      obtain ⟨bv, fv, hG, _⟩ := hS.gl
      exact cell_of hG.blk 2
    have HS := hidd hS
    by_cases hlt : i < N
    · have kl : decide ((i : Int) < (N : Int)) = true := decide_eq_true (by omega)
      obtain ⟨mu, hmu⟩ : ∃ mu, g1.much = mu := ⟨_, rfl⟩
      rw [hmu] at cm
      have HMu := hidd hmu
      clear hmu
      cases mu
      · have hsz : ts < wr.heap.size := (Array.getElem?_eq_some_iff.1 hS.all).1
        have hrl : rs < wr.heap.size := (Array.getElem?_eq_some_iff.1 hS.res).1
        obtain ⟨s9, hs9⟩ : ∃ s9, wr.heap.size = s9 := ⟨_, rfl⟩
        have hF9 : ¬ F1 s9 := fun hf => by have := hS.gl.lt hf; omega
        have hgw := hS.gl.grew
        have hlo := HW.out
        have hts := HTs.out
        obtain ⟨W2, hW2⟩ : ∃ W2, (wr.alloc (.cells #[.int .u64 0, .int .u64 0, .int .u64 0, .int .u64 0] 77)).setRow s9 (setC allB).toArray = W2 := ⟨_, rfl⟩
        obtain ⟨sB, hsB⟩ : ∃ sB, allB = sB := ⟨_, rfl⟩
        have HZ : Hid ((wr.alloc (.cells #[.int .u64 0, .int .u64 0, .int .u64 0, .int .u64 0] 77)).heap[s9]? = some (.cells #[.int .u64 0, .int .u64 0, .int .u64 0, .int .u64 0] 77 (0, 0))) := by rw [← hs9]; exact heap_alloc_new wr _
        have HX : Hid (LitSt R ls i w w0 W2 ob F rs ts o1 g1 F1 ∧ rs < W2.heap.size ∧ W2.heap[s9]? = some (.cells (setC sB).toArray 77 (0, 0)) ∧ s9 < W2.heap.size ∧ ¬ F1 s9) := by
          have ga := (Grew.refl wr).alloc (.cells #[.int .u64 0, .int .u64 0, .int .u64 0, .int .u64 0] 77)
          have hh := setRow_heap _ s9 _ (setC allB).toArray _ _ (by rw [← hs9]; exact heap_alloc_new wr (.cells #[.int .u64 0, .int .u64 0, .int .u64 0, .int .u64 0] 77))
          rw [hW2] at hh
          have hl9 := (Array.getElem?_eq_some_iff.1 hh).1
          have h2 := (hS.kept ga).setRow hF9 (show s9 ≠ rs by omega) (show s9 ≠ ts by omega) (by have := hgw.size; omega) (by omega) (setC allB).toArray
          rw [hW2] at h2
          rw [hsB] at hh
          exact ⟨h2, by omega, hh, hl9, hF9⟩
        have HB : Hid (ls[i]? = some sB) := by rw [← hsB]; exact HLs.out i hlt
        have HTl : Hid (ts < W2.heap.size ∧ rs ≠ ts ∧ w.heap.size ≤ rs ∧ w0.heap.size ≤ rs) := ⟨by have := HX.out.2.2.2.1; omega, by omega, by omega, by omega⟩
        have e0 : W2.cell? ⟨b, o, none⟩ = some (.int .i64 2) := (HNd.out.kept HX.out.1.gl.grew).c0
        have HLd : Hid (∀ w', (w' = W2.drew ∨ Sq1 w W2 ob g1 F1 sB w' ∨ Sq2 w W2 ob g1 F1 sB o1 w') → (Instr.loadAt 69 (.pointer (some ⟨rs, 0, none⟩))).run Tryd.prog w' = .ok (partV o1) w') := fun w' h => load_part ((sq_kept h HX.out.2.1 HX.out.1.nr).trans HX.out.1.res)
        have HLs2 : Hid (∀ w', (w' = W2.drew ∨ Sq1 w W2 ob g1 F1 sB w' ∨ Sq2 w W2 ob g1 F1 sB o1 w') → (Instr.loadAt 77 (.pointer (some ⟨s9, 0, none⟩))).run Tryd.prog w' = .ok (.agg (setC sB).toArray) w') := fun w' h => load_set ((sq_kept h HX.out.2.2.2.1 HX.out.2.2.2.2).trans HX.out.2.2.1)
        have HC1 : Hid (∀ w', w' = W2.drew → Calls Tryd.prog 60 #[.pointer (some ⟨ob, 0, none⟩), .agg (setC sB).toArray] w' fun e w'' => e = .returned (partV (g1.one sB).1) ∧ Sq1 w W2 ob g1 F1 sB w'') := fun w' hw => by
          subst hw
          refine (One_any (HX.out.1.gl.kept (drew_grew W2)) sB).mono fun e w'' ⟨he, F2, h1, h2⟩ => ⟨he, F2, h1, ?_⟩
          exact ⟨h2.size, h2.out, h2.new⟩
        have HC2 : Hid (∀ w', Sq1 w W2 ob g1 F1 sB w' → Calls Tryd.prog 59 #[.pointer (some ⟨ob, 0, none⟩), partV o1, partV (g1.one sB).1] w' fun e w'' => e = .returned (partV (thenP o1 (g1.one sB).1)) ∧ Sq2 w W2 ob g1 F1 sB o1 w'') := fun w' ⟨F2, h1, h2⟩ => by
          have hin := HX.out.1.inn.mono (one_in g1 sB).1
          refine (Then_any h1 o1 (g1.one sB).1 hin.last (hin.small h1.fits) (one_fits HX.out.1.gl.fits sB).2 HT.out).mono fun e w'' ⟨he, h3, h4⟩ => ⟨he, F2, h3, h2.trans h4⟩
        have HC3 : Hid (∀ w', Sq2 w W2 ob g1 F1 sB o1 w' → ∃ w'', (Instr.storeAt 69 (.pointer (some ⟨rs, 0, none⟩)) (partV (thenP o1 (g1.one sB).1))).run Tryd.prog w' = .ok () w'' ∧ Sq3 w W2 ob g1 F1 sB o1 rs w'') := fun w' h => ⟨_, store_part ((sq_kept (Or.inr (Or.inr h)) HX.out.2.1 HX.out.1.nr).trans HX.out.1.res), w', h, rfl⟩
        clear hS hF9 hgw hlo hts hsz hrl
        have HAr := hidd (And.intro HS.out.all (set_one allB))
        have HAz : Hid ((setC allB).toArray.size = 4) := rfl
        clear HS hsB
        generalize (setC allB).toArray = av at *
        go_wp2_with (first | (rw [hW2]) | (refine wpList_load_set (b := ts) rfl rfl rfl HAr.out.1 HAz.out ?_) | (refine wpList_store_set (b := s9) rfl rfl rfl rfl HZ.out rfl HAz.out HAr.out.2 ?_))
        refine RR.region_frame (J := SqJ (fun w' => w' = W2.drew) (Sq1 w W2 ob g1 F1 sB) (Sq2 w W2 ob g1 F1 sB o1) (Sq3 w W2 ob g1 F1 sB o1 rs) [0, 1, 2, 3, 4, 5] 4 5 6) (Rl := AnyRl) [65, 66, 67, 68, 69, 70] mixed (fun _ => trivial) (fun _ _ _ _ _ => trivial)
          [.val (.pointer (some ⟨ob, 0, none⟩)), .val (partV o1), .val (.pointer (some ⟨ob, 0, none⟩)), .val (.agg (setC sB).toArray), .val (partV (g1.one sB).1), .val (partV (thenP o1 (g1.one sB).1)), .fact fun _ _ => True]
          (sq_start _ _ rfl) (any_mono ?_) (by kernel_rfl) (by kernel_rfl)
          ⟨sq_move (by decide) (by decide) (by kernel_rfl) rfl rfl, sq_load (p := ⟨rs, 0, none⟩) HLd.out (by decide) (by decide) (by kernel_rfl) rfl rfl,
           sq_move (by decide) (by decide) (by kernel_rfl) rfl rfl, sq_load (p := ⟨s9, 0, none⟩) HLs2.out (by decide) (by decide) (by kernel_rfl) rfl rfl,
           sq_first (by kernel_rfl) (by decide) (by decide) (by decide) (by exact (show (4 : Nat) < 7 by decide)) HC1.out (by kernel_rfl) rfl rfl rfl,
           sq_second (by kernel_rfl) (by decide) (by decide) (by decide) (by exact (show (5 : Nat) < 7 by decide)) (by kernel_rfl) HC2.out (by kernel_rfl) rfl rfl rfl rfl,
           sq_store (by decide) (by decide) (by exact (show (6 : Nat) < 7 by decide)) (by decide) HC3.out (by decide) (by kernel_rfl) rfl rfl rfl, trivial⟩ ?_
        · intro sx hs
          simp only [List.mem_cons, List.not_mem_nil, or_false] at hs
          rcases hs with rfl | rfl | rfl | rfl | rfl | rfl | rfl <;> first | exact Or.inl ⟨_, rfl⟩ | exact Or.inr ⟨_, rfl, fun _ _ => trivial⟩
        · intro xs listed a1 wy hall hxs hJ hR _
          obtain ⟨w3, ⟨F2, h1, h2⟩, rfl⟩ := hJ.p3 (hall 6 (by exact (show (6 : Nat) < 7 by decide)))
          have HNx := hidd (HX.out.1.next HMu.out HB.out HTl.out.1 HTl.out.2.1 HTl.out.2.2.1 HTl.out.2.2.2 h1 h2 HX.out.2.1)
          simp only [List.foldl_cons, List.foldl_nil, List.setIfInBounds_toArray, List.set_cons_succ, List.set_cons_zero]
          clear hall hxs hJ hR h1 h2 HC1 HC2 HC3 HLd HLs2 HX
          go_wp2_with fail
          exact ⟨⟨i + 1, by simp, by omega, _, _, _, HNx.out⟩, by simp [intOf]; omega⟩
      · clear hS
        go_wp2_with (first | (refine wpList_load_part (b := rs) rfl rfl rfl HS.out.res rfl ?_) | (refine wpList_store_part (b := rs) rfl rfl rfl rfl HS.out.res rfl rfl (part_one _) ?_))
        refine bodyPost_ret (results_part2 (p := 4) (q := 5) (rb := rs) (av := partC o1) rfl rfl rfl (setRow_heap _ _ _ _ _ _ HS.out.res) rfl) rfl ?_
        rw [HR.out]
        have hr := HS.out.rest
        have e : litG (ls.drop i) o1 g1 = (o1, g1) := by
          cases hd : ls.drop i with
          | nil => rfl
          | cons s l => rw [litG, if_pos HMu.out]
        rw [e] at hr
        subst hr
        exact build_end1 (o := o1) rfl HS.out.gl HS.out.to HS.out.nr HW.out.1 HW.out.2 _
    · obtain rfl : i = N := by omega
      have kl : decide ((i : Int) < (i : Int)) = false := decide_eq_false (by omega)
      clear hS
      go_wp2_with (first | (refine wpList_load_part (b := rs) rfl rfl rfl HS.out.res rfl ?_) | (refine wpList_store_part (b := rs) rfl rfl rfl rfl HS.out.res rfl rfl (part_one _) ?_))
      refine bodyPost_ret (results_part2 (p := 4) (q := 5) (rb := rs) (av := partC o1) rfl rfl rfl (setRow_heap _ _ _ _ _ _ HS.out.res) rfl) rfl ?_
      rw [HR.out]
      have hr := HS.out.rest
      rw [List.drop_eq_nil_of_le (by rw [HLn.out]; omega)] at hr
      subst hr
      exact build_end1 (o := o1) rfl HS.out.gl HS.out.to HS.out.nr HW.out.1 HW.out.2 _
set_option maxHeartbeats 4000000 in
theorem build_k1 (t : ByteArray) (n : Int) (m : ByteArray) (l : List Pat) (b o : Nat) (kv : Value) (w : World) (h : BuildIn (.mk 1 t n m l) b o kv w) (w0 : World) (ob : Nat) (g : Gl) (F : Nat → Prop) (hG : GlAt w w0 ob g F) :
    Calls Tryd.prog 26 #[.pointer (some ⟨ob, 0, none⟩), .pointer (some ⟨b, o, none⟩)] w0 (BuildTo (buildP (.mk 1 t n m l) g) w w0 ob F) := by
  have hz := zero_part
  have hz2 := zero_set
  obtain ⟨R, hR⟩ : ∃ R, litG (litsOf 1 t n) ⟨0, 0, true⟩ g = R := ⟨_, rfl⟩
  have HR : Hid (buildP (.mk 1 t n m l) g = someG R) := by unfold Hid; rw [buildP_eq, ← hR]; rfl
  have HRe := hidd hR
  obtain ⟨N, hN⟩ : ∃ N, t.size = N := ⟨_, rfl⟩
  have hN6 : N ≤ 65536 := by rw [← hN]; have := h.fit; rw [fitP] at this; exact this.1 rfl
  have HLs : Hid (∀ i, i < N → ∃ c : UInt8, (litsOf 1 t n)[i]? = some (one1 c) ∧ (t.extract i (i + 1)).data.toList = [c]) := fun i hi => by
    have hi2 : i < t.data.toList.length := by rw [Array.length_toList]; show i < t.size; omega
    refine ⟨t.data.toList[i], ?_, ?_⟩
    · show (t.data.toList.map one1)[i]? = _
      rw [List.getElem?_map, List.getElem?_eq_getElem hi2]; rfl
    · rw [ByteArray.data_extract, Array.toList_extract, List.extract_eq_take_drop, List.drop_eq_getElem_cons hi2]
      simp
  have HLn : Hid ((litsOf 1 t n).length = N) := by show (t.data.toList.map one1).length = N; rw [List.length_map, Array.length_toList]; exact hN
  have HOf : Hid (∀ (i : Nat) (c : UInt8) (w1 : World), (t.extract i (i + 1)).data.toList = [c] → Calls Tryd.prog 58 #[.string (t.extract i (i + 1))] w1 fun e w' => e = .returned (.agg (setC (one1 c)).toArray) ∧ Grew w1 w') := fun i c w1 hc => by
    have hsz : (t.extract i (i + 1)).size ≤ maxLen := by rw [ByteArray.size_extract]; have := h.node.ht; have : t.size ≤ maxLen := this; omega
    have := Of_any (t.extract i (i + 1)) w1 hsz
    rw [someB_set] at this
    have e : setV (someB (t.extract i (i + 1))) = setV (one1 c) := setV_congr fun b _ => by unfold someB one1; rw [hc]; simp
    rw [e] at this; exact this
  have HP : Hid (∀ w2, Grew (w0.alloc (.cells (partC part0) 69)) w2 → _) := fun w2 g2 => build_pre h.node hG g2
  have HN := hidd (Not_none (w0.alloc (.cells (partC part0) 69)))
  have HT := hidd h.tab
  have HNd := hidd h.node
  obtain ⟨rs, hrs⟩ : ∃ rs, w0.heap.size = rs := ⟨_, rfl⟩
  rw [hrs] at HP
  have HRs := hidd hrs
  generalize hls : litsOf 1 t n = ls at *
  clear h hG hR hls
  go_enter Tryd.func26, Tryd.ntmps26
  go_wp2_with fail
  refine HN.out.mono ?_; rintro e w2 ⟨rfl, g2⟩
  have hp := HP.out w2 g2
  have HPx := hidd hp
  obtain ⟨ts, hts⟩ : ∃ ts, w2.heap.size = ts := ⟨_, rfl⟩
  have c0 : ∀ x, (w2.alloc x).cell? ⟨b, o, none⟩ = some (.int .i64 1) := fun x => (hp.node x).c0
  have r2 : ∀ x, (w2.alloc x).cell? ⟨rs, 2, none⟩ = some (.bool false) := fun x => cell_of (hp.res x) 2
  have f2 : ∀ x, (w2.alloc x).frozen? ⟨rs, 2, none⟩ = false := fun x => by unfold World.frozen?; dsimp only; rw [hp.res x]; simp
  have hbr : ∀ x, b < (w2.alloc x).heap.size := fun x => (hp.node x).lt
  have hbw : b < w.heap.size := HNd.out.lt
  have hbne : b ≠ rs := by have := hp.lo; have := hp.lr; omega
  have d0 : ∀ x v, ((w2.alloc x).setCell ⟨rs, 2, none⟩ v).cell? ⟨b, o, none⟩ = some (.int .i64 1) := fun x v => by rw [World.cell?_of_block (q_set_other _ _ (Ne.symm hbne))]; exact c0 x
  have d1 : ∀ x v, ((w2.alloc x).setCell ⟨rs, 2, none⟩ v).cell? ⟨b, o + 1, none⟩ = some (.string t) := fun x v => by rw [World.cell?_of_block (q_set_other _ _ (Ne.symm hbne))]; exact (hp.node x).c1
  have d2 : ∀ x v, ((w2.alloc x).setCell ⟨rs, 2, none⟩ v).cell? ⟨b, o + 2, none⟩ = some (.int .i64 n) := fun x v => by rw [World.cell?_of_block (q_set_other _ _ (Ne.symm hbne))]; exact (hp.node x).c2
  have HSt : Hid (LitSt R ls 0 w w0 ((w2.alloc (.cells (setC allB).toArray 77)).setCell ⟨rs, 2, none⟩ (.bool true)) ob F rs ts ⟨0, 0, true⟩ g F) := by
    refine ⟨HRe.out, in0 g true, (hp.gl _).setOther hp.hr (by have := hp.lo; have := hp.lr; omega) _, ?_, ?_, ?_, hp.hr, by rw [← hts]; exact hp.hs⟩
    · have ht := hp.to (.cells (setC allB).toArray 77)
      exact ⟨by rw [show ((w2.alloc (.cells (setC allB).toArray 77)).setCell ⟨rs, 2, none⟩ (.bool true)).heap.size = (w2.alloc (.cells (setC allB).toArray 77)).heap.size by simp [World.setCell]]; exact ht.size, fun k h1 h2 => (q_set_other _ _ (by omega)).trans (ht.out k h1 h2), ht.new⟩
    · rw [q_set_same (hp.res _)]; rfl
    · rw [q_set_other _ _ (by have := hp.ls; omega), ← hts]; exact heap_alloc_new w2 _
  have HTs : Hid (rs < ts) := by have := hp.ls; rw [hts] at this; exact this
  have HW : Hid (w.heap.size ≤ w0.heap.size ∧ w0.heap.size ≤ rs) := ⟨hp.lo, hp.lr⟩
  clear hp HP HN g2 hrs HRe hbr
  unfold setV
  go_wp2_with fail
  go_loopw [8, 9] (fun s8 s9 wr => ∃ i : Nat, s8 = .int .i64 (i : Nat) ∧ i ≤ N ∧ Hid (∃ o g F', LitSt R ls i w w0 wr ob F rs ts o g F')) (fun s8 _ _ => N - (intOf s8).toNat)
  case atStart => exact ⟨0, rfl, by omega, _, _, _, HSt.out⟩
  case round =>
    obtain ⟨i, rfl, hi, KS⟩ := hrel
    clear HSt c0 r2 f2 d0 d1 d2
    obtain ⟨o1, g1, F1, hS⟩ := KS.out
    clear KS
    have cm : wr.cell? ⟨ob, 2, none⟩ = some (.bool g1.much) := by
      obtain ⟨bv, fv, hG, _⟩ := hS.gl
      exact cell_of hG.blk 2
    have HS := hidd hS
    by_cases hlt : i < N
    · have kl : decide ((i : Int) < (N : Int)) = true := decide_eq_true (by omega)
      obtain ⟨mu, hmu⟩ : ∃ mu, g1.much = mu := ⟨_, rfl⟩
      rw [hmu] at cm
      have HMu := hidd hmu
      clear hmu
      cases mu
      · have hsz : ts < wr.heap.size := (Array.getElem?_eq_some_iff.1 hS.all).1
        have hrl : rs < wr.heap.size := (Array.getElem?_eq_some_iff.1 hS.res).1
        obtain ⟨s9, hs9⟩ : ∃ s9, wr.heap.size = s9 := ⟨_, rfl⟩
        have hF9 : ¬ F1 s9 := fun hf => by have := hS.gl.lt hf; omega
        have hgw := hS.gl.grew
        have hlo := HW.out
        have hts := HTs.out
        obtain ⟨Wa, hWa⟩ : ∃ Wa, (wr.alloc (.cells #[.int .u64 0, .int .u64 0, .int .u64 0, .int .u64 0] 77)).setRow s9 (setC allB).toArray = Wa := ⟨_, rfl⟩
        obtain ⟨c, hcs, hct⟩ := HLs.out i hlt
        have HZ : Hid ((wr.alloc (.cells #[.int .u64 0, .int .u64 0, .int .u64 0, .int .u64 0] 77)).heap[s9]? = some (.cells #[.int .u64 0, .int .u64 0, .int .u64 0, .int .u64 0] 77 (0, 0))) := by rw [← hs9]; exact heap_alloc_new wr _
        have HXa : Hid (LitSt R ls i w w0 Wa ob F rs ts o1 g1 F1 ∧ Wa.heap[s9]? = some (.cells (setC allB).toArray 77 (0, 0)) ∧ s9 ≠ rs ∧ s9 ≠ ts ∧ w.heap.size ≤ s9 ∧ w0.heap.size ≤ s9 ∧ ¬ F1 s9 ∧ rs < s9 ∧ ts < s9) := by
          have ga := (Grew.refl wr).alloc (.cells #[.int .u64 0, .int .u64 0, .int .u64 0, .int .u64 0] 77)
          have hh := setRow_heap _ s9 _ (setC allB).toArray _ _ HZ.out
          rw [hWa] at hh
          have h2 := (hS.kept ga).setRow hF9 (show s9 ≠ rs by omega) (show s9 ≠ ts by omega) (by have := hgw.size; omega) (by omega) (setC allB).toArray
          rw [hWa] at h2
          exact ⟨h2, hh, by omega, by omega, by have := hgw.size; omega, by omega, hF9, by omega, by omega⟩
        have HOc := hidd (HOf.out i c Wa hct)
        have HB : Hid (ls[i]? = some (one1 c)) := hcs
        have e0 : Wa.cell? ⟨b, o, none⟩ = some (.int .i64 1) := (HNd.out.kept HXa.out.1.gl.grew).c0
        have e1 : Wa.cell? ⟨b, o + 1, none⟩ = some (.string t) := (HNd.out.kept HXa.out.1.gl.grew).c1
        have HAr := hidd (And.intro HS.out.all (And.intro (set_one allB) (set_one (one1 c))))
        have HAz : Hid ((setC allB).toArray.size = 4) := rfl
        have HAy : Hid ((setC (one1 c)).toArray.size = 4) := rfl
        have hi1 : i + 1 ≤ t.size := by omega
        clear HS hcs hct hS hF9 hgw hlo hts hsz hrl
        obtain ⟨av, hav⟩ : ∃ av, (setC allB).toArray = av := ⟨_, rfl⟩
        rw [hav] at hWa HXa HAr HAz
        clear hav
        go_wp2_with (first | (rw [hWa]) | (refine wpList_load_set (b := ts) rfl rfl rfl HAr.out.1 HAz.out ?_) | (refine wpList_store_set (b := s9) rfl rfl rfl rfl HZ.out rfl HAz.out HAr.out.2.1 ?_))
        refine HOc.out.mono ?_; rintro e w4 ⟨rfl, g4⟩
        obtain ⟨sB, hsB⟩ : ∃ sB, one1 c = sB := ⟨_, rfl⟩
        rw [hsB] at HB HAr HAy ⊢
        obtain ⟨W2, hW2⟩ : ∃ W2, w4.setRow s9 (setC sB).toArray = W2 := ⟨_, rfl⟩
        have HZ4 : Hid (w4.heap[s9]? = some (.cells av 77 (0, 0))) := heap_kept g4 HXa.out.2.1
        have HX : Hid (LitSt R ls i w w0 W2 ob F rs ts o1 g1 F1 ∧ rs < W2.heap.size ∧ W2.heap[s9]? = some (.cells (setC sB).toArray 77 (0, 0)) ∧ s9 < W2.heap.size ∧ ¬ F1 s9) := by
          obtain ⟨x1, x2, x3, x4, x5, x6, x7, x8, x9⟩ := HXa.out
          have hh := setRow_heap _ s9 _ (setC sB).toArray _ _ HZ4.out
          rw [hW2] at hh
          have hl9 := (Array.getElem?_eq_some_iff.1 hh).1
          have h2 := (x1.kept g4).setRow x7 x3 x4 x5 x6 (setC sB).toArray
          rw [hW2] at h2
          exact ⟨h2, by omega, hh, hl9, x7⟩
        have HTl : Hid (ts < W2.heap.size ∧ rs ≠ ts ∧ w.heap.size ≤ rs ∧ w0.heap.size ≤ rs) := by
          obtain ⟨x1, x2, x3, x4, x5, x6, x7, x8, x9⟩ := HXa.out
          have := HX.out.2.2.2.1
          have := HW.out
          have := HTs.out
          exact ⟨by omega, by omega, by omega, by omega⟩
        clear g4 HOc hWa e0 e1
        have HLd : Hid (∀ w', (w' = W2.drew ∨ Sq1 w W2 ob g1 F1 sB w' ∨ Sq2 w W2 ob g1 F1 sB o1 w') → (Instr.loadAt 69 (.pointer (some ⟨rs, 0, none⟩))).run Tryd.prog w' = .ok (partV o1) w') := fun w' h => load_part ((sq_kept h HX.out.2.1 HX.out.1.nr).trans HX.out.1.res)
        have HLs2 : Hid (∀ w', (w' = W2.drew ∨ Sq1 w W2 ob g1 F1 sB w' ∨ Sq2 w W2 ob g1 F1 sB o1 w') → (Instr.loadAt 77 (.pointer (some ⟨s9, 0, none⟩))).run Tryd.prog w' = .ok (.agg (setC sB).toArray) w') := fun w' h => load_set ((sq_kept h HX.out.2.2.2.1 HX.out.2.2.2.2).trans HX.out.2.2.1)
        have HC1 : Hid (∀ w', w' = W2.drew → Calls Tryd.prog 60 #[.pointer (some ⟨ob, 0, none⟩), .agg (setC sB).toArray] w' fun e w'' => e = .returned (partV (g1.one sB).1) ∧ Sq1 w W2 ob g1 F1 sB w'') := fun w' hw => by
          subst hw
          refine (One_any (HX.out.1.gl.kept (drew_grew W2)) sB).mono fun e w'' ⟨he, F2, h1, h2⟩ => ⟨he, F2, h1, ?_⟩
          exact ⟨h2.size, h2.out, h2.new⟩
        have HC2 : Hid (∀ w', Sq1 w W2 ob g1 F1 sB w' → Calls Tryd.prog 59 #[.pointer (some ⟨ob, 0, none⟩), partV o1, partV (g1.one sB).1] w' fun e w'' => e = .returned (partV (thenP o1 (g1.one sB).1)) ∧ Sq2 w W2 ob g1 F1 sB o1 w'') := fun w' ⟨F2, h1, h2⟩ => by
          have hin := HX.out.1.inn.mono (one_in g1 sB).1
          refine (Then_any h1 o1 (g1.one sB).1 hin.last (hin.small h1.fits) (one_fits HX.out.1.gl.fits sB).2 HT.out).mono fun e w'' ⟨he, h3, h4⟩ => ⟨he, F2, h3, h2.trans h4⟩
        have HC3 : Hid (∀ w', Sq2 w W2 ob g1 F1 sB o1 w' → ∃ w'', (Instr.storeAt 69 (.pointer (some ⟨rs, 0, none⟩)) (partV (thenP o1 (g1.one sB).1))).run Tryd.prog w' = .ok () w'' ∧ Sq3 w W2 ob g1 F1 sB o1 rs w'') := fun w' h => ⟨_, store_part ((sq_kept (Or.inr (Or.inr h)) HX.out.2.1 HX.out.1.nr).trans HX.out.1.res), w', h, rfl⟩
        clear HXa
        obtain ⟨bvv, hbv⟩ : ∃ bvv, (setC sB).toArray = bvv := ⟨_, rfl⟩
        rw [hbv] at hW2 HAr HAy HLs2 HC1 ⊢
        go_wp2_with (first | (rw [hW2]) | (refine wpList_store_set (b := s9) rfl rfl rfl rfl HZ4.out HAz.out HAy.out HAr.out.2.2 ?_))
        rw [← hbv] at HLs2 HC1 ⊢
        refine RR.region_frame (J := SqJ (fun w' => w' = W2.drew) (Sq1 w W2 ob g1 F1 sB) (Sq2 w W2 ob g1 F1 sB o1) (Sq3 w W2 ob g1 F1 sB o1 rs) [0, 1, 2, 3, 4, 5] 4 5 6) (Rl := AnyRl) [65, 66, 67, 68, 69, 70] mixed (fun _ => trivial) (fun _ _ _ _ _ => trivial)
          [.val (.pointer (some ⟨ob, 0, none⟩)), .val (partV o1), .val (.pointer (some ⟨ob, 0, none⟩)), .val (.agg (setC sB).toArray), .val (partV (g1.one sB).1), .val (partV (thenP o1 (g1.one sB).1)), .fact fun _ _ => True]
          (sq_start _ _ rfl) (any_mono ?_) (by kernel_rfl) (by kernel_rfl)
          ⟨sq_move (by decide) (by decide) (by kernel_rfl) rfl rfl, sq_load (p := ⟨rs, 0, none⟩) HLd.out (by decide) (by decide) (by kernel_rfl) rfl rfl,
           sq_move (by decide) (by decide) (by kernel_rfl) rfl rfl, sq_load (p := ⟨s9, 0, none⟩) HLs2.out (by decide) (by decide) (by kernel_rfl) rfl rfl,
           sq_first (by kernel_rfl) (by decide) (by decide) (by decide) (by exact (show (4 : Nat) < 7 by decide)) HC1.out (by kernel_rfl) rfl rfl rfl,
           sq_second (by kernel_rfl) (by decide) (by decide) (by decide) (by exact (show (5 : Nat) < 7 by decide)) (by kernel_rfl) HC2.out (by kernel_rfl) rfl rfl rfl rfl,
           sq_store (by decide) (by decide) (by exact (show (6 : Nat) < 7 by decide)) (by decide) HC3.out (by decide) (by kernel_rfl) rfl rfl rfl, trivial⟩ ?_
        · intro sx hs
          simp only [List.mem_cons, List.not_mem_nil, or_false] at hs
          rcases hs with rfl | rfl | rfl | rfl | rfl | rfl | rfl <;> first | exact Or.inl ⟨_, rfl⟩ | exact Or.inr ⟨_, rfl, fun _ _ => trivial⟩
        · intro xs listed a1 wy hall hxs hJ hR _
          obtain ⟨w3, ⟨F2, h1, h2⟩, rfl⟩ := hJ.p3 (hall 6 (by exact (show (6 : Nat) < 7 by decide)))
          have HNx := hidd (HX.out.1.next HMu.out HB.out HTl.out.1 HTl.out.2.1 HTl.out.2.2.1 HTl.out.2.2.2 h1 h2 HX.out.2.1)
          simp only [List.foldl_cons, List.foldl_nil, List.setIfInBounds_toArray, List.set_cons_succ, List.set_cons_zero]
          clear hall hxs hJ hR h1 h2 HC1 HC2 HC3 HLd HLs2 HX
          go_wp2_with fail
          exact ⟨⟨i + 1, by simp, by omega, _, _, _, HNx.out⟩, by simp [intOf]; omega⟩
      · clear hS
        go_wp2_with (first | (refine wpList_load_part (b := rs) rfl rfl rfl HS.out.res rfl ?_) | (refine wpList_store_part (b := rs) rfl rfl rfl rfl HS.out.res rfl rfl (part_one _) ?_))
        refine bodyPost_ret (results_part2 (p := 4) (q := 5) (rb := rs) (av := partC o1) rfl rfl rfl (setRow_heap _ _ _ _ _ _ HS.out.res) rfl) rfl ?_
        rw [HR.out]
        have hr := HS.out.rest
        have e : litG (ls.drop i) o1 g1 = (o1, g1) := by
          cases hd : ls.drop i with
          | nil => rfl
          | cons s l => rw [litG, if_pos HMu.out]
        rw [e] at hr
        subst hr
        exact build_end1 (o := o1) rfl HS.out.gl HS.out.to HS.out.nr HW.out.1 HW.out.2 _
    · obtain rfl : i = N := by omega
      have kl : decide ((i : Int) < (i : Int)) = false := decide_eq_false (by omega)
      clear hS
      go_wp2_with (first | (refine wpList_load_part (b := rs) rfl rfl rfl HS.out.res rfl ?_) | (refine wpList_store_part (b := rs) rfl rfl rfl rfl HS.out.res rfl rfl (part_one _) ?_))
      refine bodyPost_ret (results_part2 (p := 4) (q := 5) (rb := rs) (av := partC o1) rfl rfl rfl (setRow_heap _ _ _ _ _ _ HS.out.res) rfl) rfl ?_
      rw [HR.out]
      have hr := HS.out.rest
      rw [List.drop_eq_nil_of_le (by rw [HLn.out]; omega)] at hr
      subst hr
      exact build_end1 (o := o1) rfl HS.out.gl HS.out.to HS.out.nr HW.out.1 HW.out.2 _
end Go.Proofs.YtkkdpafkafjfgaaDoor
