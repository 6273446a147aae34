/- ScanFence: the walk. Conditions: what the arguments are read as; the library's table of powers of ten. -/
import Derived.Test.YtmkldfjcpmoajabDoorScShape
import Derived.Test.YtmkldfjcpmoajabDoorScPlain
namespace Go.Proofs.YtmkldfjcpmoajabDoor
open Go.RowKit
set_option linter.unusedVariables false
/-- What 'all' says, as one value; its list alone. -/
def AllIs (r : List Way × Bool × Int) (v : Value) (w : World) : Prop := ∃ a c, v = .tuple #[.slice a r.1.length c, .bool r.2.1, .bool (allOk r)] ∧ WaysV w (.slice a r.1.length c) r.1
theorem AllIs.mono (r : List Way × Bool × Int) : ∀ v w w', Grew w w' → AllIs r v w → AllIs r v w' := fun v w w' g ⟨a, c, h1, h2⟩ => ⟨a, c, h1, h2.kept g⟩
def WaysIs (l : List Way) (v : Value) (w : World) : Prop := ∃ a c, v = .slice a l.length c ∧ WaysV w (.slice a l.length c) l
theorem WaysIs.mono (l : List Way) : ∀ v w w', Grew w w' → WaysIs l v w → WaysIs l v w' := fun v w w' g ⟨a, c, h1, h2⟩ => ⟨a, c, h1, h2.kept g⟩
section
variable {ops : Array Oper} {Q : Exit → Act → World → Prop} {shs : List Sh} {a0 : Act} {w0 : World} {A : Array Edge} {i : Nat} {d : Option Tmp} {ty : TypeId} {pos : String} {G : Option (Nat × Bool)}
theorem go_all : isGo Tryd.prog 10 = true := by kernel_rfl
theorem st_all {x y u v : Operand} {R : List Rule} {rv : Value} {p : Pat} {s : ByteArray} {at_ : Int} {r : List Way × Bool × Int} {ats : Array TypeId} (hr : allT R s p at_ = r) (hT : TabP w0) (hR : RulesAt w0 rv R) (hsz : s.size ≤ maxLen) (hg : guardOk ops shs A G = true)
    (hx : opSh ops shs A a0 x = .val rv) (hy : opSh ops shs A a0 y = .pat p) (hu : opSh ops shs A a0 u = .val (.string s)) (hv : opSh ops shs A a0 v = .val (.int .i64 at_)) (hs : shs.getD i .any = .fact (AllIs r) (AllIs.mono _)) :
    StepOk Tryd.prog ops Q (shF shs) a0 w0 i ⟨d, .call { callee := .value (.func 10), args := #[x, y, u, v], argTypes := ats }, ty, pos, A, G⟩ :=
  st_call go_all hg fun a w E => by
    have h1 := E.op x
    have h2 := E.op y
    have h4 := E.op u
    have h5 := E.op v
    rw [hx] at h1
    rw [hy] at h2
    rw [hu] at h4
    rw [hv] at h5
    have h1 : a.eval x = rv := h1
    have h4 : a.eval u = .string s := h4
    have h5 : a.eval v = .int .i64 at_ := h5
    obtain ⟨kv, h2, hp⟩ := h2
    simp only [List.map_toArray, List.map_cons, List.map_nil]
    rw [h1, h2, h4, h5]
    exact (all_any at_ (hR.kept E.grew) hp hsz (hT.kept E.grew)).mono fun e w' ⟨hg, b, c, he, hw⟩ => ⟨_, he, hg, by rw [hr] at hw ⊢; unfold shF; rw [hs]; exact ⟨b, c, rfl, hw⟩⟩
theorem st_ext {x : Operand} {r : List Way × Bool × Int} {k : Nat} {sh : Sh} (hm : ∀ v w, AllIs r v w → ∃ vs u, v = .tuple vs ∧ vs[k]? = some u ∧ sh.At u w) (hg : guardOk ops shs A G = true)
    (hx : opSh ops shs A a0 x = .fact (AllIs r) (AllIs.mono _)) (hs : shs.getD i .any = sh) : StepOk Tryd.prog ops Q (shF shs) a0 w0 i ⟨d, .extract x k, ty, pos, A, G⟩ :=
  st_run hg fun a w E K hK => by
    have h1 := E.op x
    rw [hx] at h1
    obtain ⟨vs, u, h2, h3, h4⟩ := hm _ _ h1
    have := hK u w (Grew.refl w) (by unfold shF; rw [hs]; exact h4)
    unfold Oper.wp execOp
    simpa [h2, h3, Instr.extract, Oper.upon] using this
theorem ext0 {r : List Way × Bool × Int} : ∀ v w, AllIs r v w → ∃ vs u, v = .tuple vs ∧ vs[0]? = some u ∧ (Sh.fact (WaysIs r.1) (WaysIs.mono _)).At u w := fun v w ⟨a, c, h1, h2⟩ => ⟨_, _, h1, rfl, a, c, rfl, h2⟩
theorem ext1 {r : List Way × Bool × Int} : ∀ v w, AllIs r v w → ∃ vs u, v = .tuple vs ∧ vs[1]? = some u ∧ (Sh.val (.bool r.2.1)).At u w := fun v w ⟨a, c, h1, h2⟩ => ⟨_, _, h1, rfl, rfl⟩
theorem ext2 {r : List Way × Bool × Int} : ∀ v w, AllIs r v w → ∃ vs u, v = .tuple vs ∧ vs[2]? = some u ∧ (Sh.val (.bool (allOk r))).At u w := fun v w ⟨a, c, h1, h2⟩ => ⟨_, _, h1, rfl, rfl⟩
end
/-- A region of open order, by its shapes; what it leaves in the slots is named. -/
theorem frame_of {D : List Nat} {t0 t1 : Array Value} (hsz : t1.size = t0.size) (h : ∀ d, d ∉ D → t1.getD d undef = t0.getD d undef) : t1 = D.foldl (fun t d => t.setIfInBounds d (t1.getD d undef)) t0 := by
  have key : ∀ (D : List Nat) (t : Array Value), t1.size = t.size → (D.foldl (fun t d => t.setIfInBounds d (t1.getD d undef)) t).size = t.size ∧ ∀ j, (D.foldl (fun t d => t.setIfInBounds d (t1.getD d undef)) t).getD j undef = if j ∈ D ∧ j < t.size then t1.getD j undef else t.getD j undef := by
    intro D
    induction D with
    | nil => intro t _; exact ⟨rfl, fun j => by simp⟩
    | cons d D ih =>
      intro t ht
      obtain ⟨h1, h2⟩ := ih (t.setIfInBounds d (t1.getD d undef)) (by rw [Array.size_setIfInBounds]; exact ht)
      refine ⟨by rw [List.foldl_cons, h1, Array.size_setIfInBounds], fun j => ?_⟩
      rw [List.foldl_cons, h2, Array.size_setIfInBounds]
      by_cases hj : j ∈ D ∧ j < t.size
      · rw [if_pos hj, if_pos ⟨List.mem_cons_of_mem _ hj.1, hj.2⟩]
      · rw [if_neg hj]
        by_cases hjd : j = d
        · subst hjd
          by_cases hl : j < t.size
          · rw [if_pos ⟨List.mem_cons_self, hl⟩]
            simp [Array.getD_eq_getD_getElem?, hl]
          · rw [if_neg (by simp [hl])]
            simp [Array.getD_eq_getD_getElem?, hl]
        · rw [if_neg (by intro h; exact hj ⟨(List.mem_cons.1 h.1).resolve_left hjd, h.2⟩)]
          rw [Array.getD_eq_getD_getElem?, Array.getElem?_setIfInBounds_ne (Ne.symm hjd), Array.getD_eq_getD_getElem?]
  obtain ⟨k1, k2⟩ := key D t0 hsz
  refine Array.ext (by rw [k1, hsz]) fun j h1 h2 => ?_
  have := k2 j
  rw [Array.getD_eq_getD_getElem?, Array.getElem?_eq_getElem h2, Option.getD_some] at this
  rw [this]
  have h3 : t1.getD j undef = t1[j] := by rw [Array.getD_eq_getD_getElem?, Array.getElem?_eq_getElem h1, Option.getD_some]
  by_cases hj : j ∈ D
  · rw [if_pos ⟨hj, by omega⟩, h3]
  · rw [if_neg (fun x => hj x.1), ← h j hj, h3]
theorem region_frame {ops : List Oper} {Q : Exit → Act → World → Prop} {a0 : Act} {w0 : World} {id : Nat} (D : List Nat) (shs : List Sh) (hD : ops.filterMap (·.dst) = D) (hok : regionOk ops.toArray a0.tmps.size = true)
    (hstep : AllSteps Tryd.prog ops.toArray Q (shF shs) a0 w0 0 ops)
    (hend : ∀ (xs : Nat → Value) w, Grew w0 w → (∀ (i : Nat) o d, ops.toArray[i]? = some o → o.dst = some d → shF shs i (xs d) w) → Q .normal ⟨D.foldl (fun t d => t.setIfInBounds d (xs d)) a0.tmps, a0.defers⟩ w) :
    (Code.region id ops.toArray true).wp Tryd.prog Q a0 w0 :=
  region_shapes shs hok hstep fun a w g hdf hsz hsm ht => by
    have := hend (fun d => a.tmps.getD d undef) w g ht
    have hf := frame_of (D := D) hsz fun d hd => hsm d fun i o ho e => hd (by
      rw [← hD, List.mem_filterMap]
      exact ⟨o, by have := Array.mem_of_getElem? ho; simpa using this, e⟩)
    rw [← hf, ← hdf] at this
    exact this
section
variable {R : List Rule} {w : World} {rv ka kb : Value} {a b : Pat} {s : ByteArray}
theorem fence_int (at_ : Int) (h1 : allOk (allT R s a at_) = true) (h2 : allOk (allT R s (catP [a, fenceP]) at_) = true) :
    ((allT R s a at_).1 = [] ∧ (allT R s (catP [a, fenceP]) at_).1 = [] ∧ (allT R s (catP [a, fenceP]) at_).2.1 = (allT R s a at_).2.1) ∨
    (∃ x l, (allT R s a at_).1 = x :: l ∧ (allT R s (catP [a, fenceP]) at_).1 = [x] ∧ (allT R s (catP [a, fenceP]) at_).2.1 = true) := by
  obtain ⟨n, rfl, _⟩ := allOk_some R s h1
  obtain ⟨k1, k2⟩ := fence_all h1 h2
  cases h : (allT R s a n).1 with
  | nil => obtain ⟨e1, e2⟩ := k1 h; exact Or.inl ⟨rfl, e1, e2⟩
  | cons x l => obtain ⟨e1, e2⟩ := k2 x l h; exact Or.inr ⟨x, l, rfl, e1, e2⟩
theorem abort_int (at_ : Int) (h1 : allOk (allT R s a at_) = true) (h2 : allOk (allT R s (altP [a, catP [abortP, b], b]) at_) = true) :
    (allT R s (altP [a, catP [abortP, b], b]) at_).1 = (allT R s a at_).1 ∧ (allT R s (altP [a, catP [abortP, b], b]) at_).2.1 = true := by
  obtain ⟨n, rfl, _⟩ := allOk_some R s h1
  exact abort_all h1 h2
/-- What stands in the memory between the regions. -/
structure FenceSt (w : World) (a b : Pat) (ka kb va vb : Value) (la lc : List Way) (w3 : World) : Prop where
  grew : Grew w w3
  first : WaysV w3 va la
  second : WaysV w3 vb lc
  box0 : w3.heap[w.heap.size]? = some (.cells (a.cells ka) 28 (0, 0))
  box1 : w3.heap[w.heap.size + 1]? = some (.cells (b.cells kb) 28 (0, 0))
theorem FenceSt.on {va vb : Value} {la lc : List Way} {w3 w4 : World} (h : FenceSt w a b ka kb va vb la lc w3) (g : Grew w3 w4) : FenceSt w a b ka kb va vb la lc w4 :=
  ⟨h.grew.trans g, h.first.kept g, h.second.kept g, by rw [g.block _ (lt_of_block h.box0)]; exact h.box0, by rw [g.block _ (lt_of_block h.box1)]; exact h.box1⟩
set_option maxRecDepth 100000 in
set_option maxHeartbeats 4000000 in
theorem ScanFence_walk (at_ : Int) (hR : RulesAt w rv R) (ha : PatV w ka a) (hb : PatV w kb b) (hs : s.size ≤ maxLen) (hat : -9223372036854775808 ≤ at_ ∧ at_ ≤ 9223372036854775807) (hT : TabP w) :
    Calls Tryd.prog 4 #[rv, .agg (a.cells ka), .agg (b.cells kb), .string s, .int .i64 at_] w fun e w' => e = .returned (.bool true) ∧ Grew w w' := by
  obtain ⟨ra, rc, rfl, _⟩ := hR.len
  have HAl : Hid (∀ w1, Grew w w1 → Calls Tryd.prog 9 #[] w1 fun e w' => e = .returned (.bool true) ∧ Grew w1 w') := fun w1 g => alive_any w1 (hT.kept g)
  have hFI := fence_int (R := R) (a := a) (s := s) at_
  have hAB := abort_int (R := R) (a := a) (b := b) (s := s) at_
  obtain ⟨⟨la, ca, ea⟩, hA⟩ : ∃ r, allT R s a at_ = r := ⟨_, rfl⟩
  obtain ⟨⟨lc, cc, ec⟩, hC⟩ : ∃ r, allT R s (catP [a, fenceP]) at_ = r := ⟨_, rfl⟩
  obtain ⟨⟨ln, cn, en⟩, hN⟩ : ∃ r, allT R s (altP [a, catP [abortP, b], b]) at_ = r := ⟨_, rfl⟩
  rw [hA, hC] at hFI
  rw [hA, hN] at hAB
  dsimp only at hFI hAB
  obtain ⟨oa, hoa⟩ : ∃ o, allOk (la, ca, ea) = o := ⟨_, rfl⟩
  obtain ⟨oc, hoc⟩ : ∃ o, allOk (lc, cc, ec) = o := ⟨_, rfl⟩
  obtain ⟨on, hon⟩ : ∃ o, allOk (ln, cn, en) = o := ⟨_, rfl⟩
  rw [hoa, hoc] at hFI
  rw [hoa, hon] at hAB
  have HAA : Hid (∀ w1, Grew w w1 → Calls Tryd.prog 10 #[.slice ra R.length rc, .agg (a.cells ka), .string s, .int .i64 at_] w1 fun e w' => Grew w1 w' ∧ ∃ x c, e = .returned (.tuple #[.slice x la.length c, .bool ca, .bool oa]) ∧ WaysV w' (.slice x la.length c) la) := fun w1 g => (all_any at_ (hR.kept g) (ha.kept g) hs (hT.kept g)).mono fun e w' ⟨h1, x, c, h2, h3⟩ => by
    rw [hA] at h2 h3
    rw [hoa] at h2
    exact ⟨h1, x, c, h2, h3⟩
  have H := hidd (And.intro hR (And.intro ha (And.intro hb (And.intro hs (And.intro hT (And.intro hC (And.intro hN (And.intro hoc hon))))))))
  have HF := hidd (And.intro hFI hAB)
  clear hR ha hb hs hT hat hFI hAB hA hC hN hoc hon hoa
  unfold Pat.cells at HAA ⊢
  go_enter Tryd.func4, Tryd.ntmps4
  go_wp2_with fail
  refine (HAl.out _ (((Grew.refl w).alloc _).alloc _)).mono ?_; rintro e w1 ⟨rfl, g1⟩
  have G1 := hidd ((((Grew.refl w).alloc _).alloc _).trans g1)
  have hA : w1.heap[w.heap.size]? = some (.cells (a.cells ka) 28 (0, 0)) := by rw [g1.block _ (by simp; omega)]; exact (heap_two w _ _).1
  have hB : w1.heap[w.heap.size + 1]? = some (.cells (b.cells kb) 28 (0, 0)) := by rw [g1.block _ (by simp)]; exact (heap_two w _ _).2
  have BX := hidd (And.intro hA hB)
  obtain ⟨k0, k1, k2, k3, k4⟩ := box_five hA
  clear g1 HAl hA hB
  go_wp2_with fail
  refine (HAA.out _ G1.out).mono ?_; rintro e w2 ⟨g2, xa, xc, rfl, hv⟩
  have G2 := hidd (And.intro (G1.out.trans g2) (And.intro hv (And.intro (show w2.heap[w.heap.size]? = some (.cells (a.cells ka) 28 (0, 0)) by rw [g2.block _ (lt_of_block BX.out.1)]; exact BX.out.1) (show w2.heap[w.heap.size + 1]? = some (.cells (b.cells kb) 28 (0, 0)) by rw [g2.block _ (lt_of_block BX.out.2)]; exact BX.out.2))))
  clear g2 hv HAA BX G1 k0 k1 k2 k3 k4
  go_wp2_with fail
  obtain ⟨HR, ha, hb, HS, HT, hC, _, hoc, _⟩ := H.out
  have ha2 := ha.kept G2.out.1
  have hR2 := HR.kept G2.out.1
  have hT2 := HT.kept G2.out.1
  have hb0 := G2.out.2.2.1
  refine region_frame [31, 32, 33, 34, 35, 36, 37, 38, 30, 39, 40, 41, 14, 15, 16] ([.val (.slice ra R.length rc), .pat a, .pat (someP 16 0 ⟨#[]⟩), .kids [a, someP 16 0 ⟨#[]⟩], .pat (catP [a, someP 16 0 ⟨#[]⟩]), .val (.string s), .val (.int .i64 at_), .fact (AllIs (lc, cc, ec)) (AllIs.mono _), .fact (AllIs (lc, cc, ec)) (AllIs.mono _), .fact (WaysIs lc) (WaysIs.mono _), .val (.bool cc), .val (.bool (allOk (lc, cc, ec))), .fact (WaysIs lc) (WaysIs.mono _), .val (.bool cc), .val (.bool (allOk (lc, cc, ec)))]) (by kernel_rfl) (by kernel_rfl)
    ⟨st_move (by kernel_rfl) rfl, st_load hb0 ha2 (by kernel_rfl) rfl rfl, st_some (by omega) (by omega) (Nat.zero_le _) (by kernel_rfl) rfl rfl rfl rfl, st_two (by kernel_rfl) rfl rfl rfl, st_cat (by kernel_rfl) rfl rfl, st_move (by kernel_rfl) rfl, st_move (by kernel_rfl) rfl, st_all hC hT2 hR2 HS (by kernel_rfl) rfl rfl rfl rfl rfl, st_move (by kernel_rfl) rfl, st_ext ext0 (by kernel_rfl) rfl rfl, st_ext ext1 (by kernel_rfl) rfl rfl, st_ext ext2 (by kernel_rfl) rfl rfl, st_assign (by kernel_rfl) rfl, st_assign (by kernel_rfl) rfl, st_assign (by kernel_rfl) rfl, trivial⟩ ?_
  intro xs w3 g3 ht
  obtain ⟨ya, yc, e14, hv3⟩ := ht 12 _ 14 rfl rfl
  have e15 : xs 15 = .bool cc := ht 13 _ 15 rfl rfl
  have e16 : xs 16 = .bool (allOk (lc, cc, ec)) := ht 14 _ 16 rfl rfl
  rw [hoc] at e16
  have G3 : Hid (FenceSt w a b ka kb (.slice xa la.length xc) (.slice ya lc.length yc) la lc w3) := ⟨G2.out.1.trans g3, G2.out.2.1.kept g3, hv3, by rw [g3.block _ (lt_of_block hb0)]; exact hb0, by rw [g3.block _ (lt_of_block G2.out.2.2.2)]; exact G2.out.2.2.2⟩
  clear ht hb0 ha2 hR2 hT2 HR HT HS hb g3 hv3 G2 ha hC hoc
  simp only [List.foldl_cons, List.foldl_nil, List.setIfInBounds_toArray, List.set_cons_succ, List.set_cons_zero, e14, e15, e16]
  clear e14 e15 e16
  have h4 : oa = false ∨ (oa = true ∧ oc = false) ∨ (oa = true ∧ oc = true ∧ la = [] ∧ lc = [] ∧ cc = ca) ∨ (oa = true ∧ oc = true ∧ ∃ x l, la = x :: l ∧ lc = [x] ∧ cc = true) := by
    have := HF.out.1
    cases oa
    · exact Or.inl rfl
    · cases oc
      · exact Or.inr (Or.inl ⟨rfl, rfl⟩)
      · rcases this rfl rfl with h | h
        · exact Or.inr (Or.inr (Or.inl ⟨rfl, rfl, h⟩))
        · exact Or.inr (Or.inr (Or.inr ⟨rfl, rfl, h⟩))
  rcases h4 with rfl | ⟨rfl, rfl⟩ | ⟨rfl, rfl, rfl, rfl, rfl⟩ | ⟨rfl, rfl, x, l, rfl, rfl, rfl⟩
  · have G9 := G3
    clear G3
    go_wp2_with fail
    obtain ⟨HR, ha, hb, HS, HT, _, hN, _, hon⟩ := H.out
    have ha2 := ha.kept G9.out.grew
    have hb2 := hb.kept G9.out.grew
    have hR2 := HR.kept G9.out.grew
    have hT2 := HT.kept G9.out.grew
    have hb0 := G9.out.box0
    have hb1 := G9.out.box1
    refine region_frame [95, 96, 97, 98, 99, 100, 101, 102, 103, 104, 105, 106, 94, 107, 108, 109, 17, 18, 16] ([.val (.slice ra R.length rc), .pat a, .pat (someP 17 0 ⟨#[]⟩), .pat b, .kids [someP 17 0 ⟨#[]⟩, b], .pat (catP [someP 17 0 ⟨#[]⟩, b]), .pat b, .kids [a, catP [someP 17 0 ⟨#[]⟩, b], b], .pat (altP [a, catP [someP 17 0 ⟨#[]⟩, b], b]), .val (.string s), .val (.int .i64 at_), .fact (AllIs (ln, cn, en)) (AllIs.mono _), .fact (AllIs (ln, cn, en)) (AllIs.mono _), .fact (WaysIs ln) (WaysIs.mono _), .val (.bool cn), .val (.bool (allOk (ln, cn, en))), .fact (WaysIs ln) (WaysIs.mono _), .val (.bool cn), .val (.bool (allOk (ln, cn, en)))]) (by kernel_rfl) (by kernel_rfl)
      ⟨st_move (by kernel_rfl) rfl, st_load hb0 ha2 (by kernel_rfl) rfl rfl, st_some (by omega) (by omega) (Nat.zero_le _) (by kernel_rfl) rfl rfl rfl rfl, st_load hb1 hb2 (by kernel_rfl) rfl rfl, st_two (by kernel_rfl) rfl rfl rfl, st_cat (by kernel_rfl) rfl rfl, st_load hb1 hb2 (by kernel_rfl) rfl rfl, st_three (by kernel_rfl) rfl rfl rfl rfl, st_alt (by kernel_rfl) rfl rfl, st_move (by kernel_rfl) rfl, st_move (by kernel_rfl) rfl, st_all hN hT2 hR2 HS (by kernel_rfl) rfl rfl rfl rfl rfl, st_move (by kernel_rfl) rfl, st_ext ext0 (by kernel_rfl) rfl rfl, st_ext ext1 (by kernel_rfl) rfl rfl, st_ext ext2 (by kernel_rfl) rfl rfl, st_assign (by kernel_rfl) rfl, st_assign (by kernel_rfl) rfl, st_assign (by kernel_rfl) rfl, trivial⟩ ?_
    intro xs4 w4 g4 ht
    obtain ⟨za, zc, e17, hv4⟩ := ht 16 _ 17 rfl rfl
    have e18 : xs4 18 = .bool cn := ht 17 _ 18 rfl rfl
    have e16 : xs4 16 = .bool (allOk (ln, cn, en)) := ht 18 _ 16 rfl rfl
    rw [hon] at e16
    have hSW := hidd (SameWays_any (G9.out.first.kept g4) hv4)
    have G10 := hidd (G9.out.grew.trans g4)
    simp only [List.foldl_cons, List.foldl_nil, List.setIfInBounds_toArray, List.set_cons_succ, List.set_cons_zero, e17, e18, e16]
    clear ht hb0 hb1 ha2 hb2 hR2 hT2 HR HT HS hb g4 hv4 G9 ha hN hon e16 e17 e18
    go_wp2_with fail
    go_ret
    exact ⟨rfl, G10.out⟩
  · have G9 := G3
    clear G3
    go_wp2_with fail
    obtain ⟨HR, ha, hb, HS, HT, _, hN, _, hon⟩ := H.out
    have ha2 := ha.kept G9.out.grew
    have hb2 := hb.kept G9.out.grew
    have hR2 := HR.kept G9.out.grew
    have hT2 := HT.kept G9.out.grew
    have hb0 := G9.out.box0
    have hb1 := G9.out.box1
    refine region_frame [95, 96, 97, 98, 99, 100, 101, 102, 103, 104, 105, 106, 94, 107, 108, 109, 17, 18, 16] ([.val (.slice ra R.length rc), .pat a, .pat (someP 17 0 ⟨#[]⟩), .pat b, .kids [someP 17 0 ⟨#[]⟩, b], .pat (catP [someP 17 0 ⟨#[]⟩, b]), .pat b, .kids [a, catP [someP 17 0 ⟨#[]⟩, b], b], .pat (altP [a, catP [someP 17 0 ⟨#[]⟩, b], b]), .val (.string s), .val (.int .i64 at_), .fact (AllIs (ln, cn, en)) (AllIs.mono _), .fact (AllIs (ln, cn, en)) (AllIs.mono _), .fact (WaysIs ln) (WaysIs.mono _), .val (.bool cn), .val (.bool (allOk (ln, cn, en))), .fact (WaysIs ln) (WaysIs.mono _), .val (.bool cn), .val (.bool (allOk (ln, cn, en)))]) (by kernel_rfl) (by kernel_rfl)
      ⟨st_move (by kernel_rfl) rfl, st_load hb0 ha2 (by kernel_rfl) rfl rfl, st_some (by omega) (by omega) (Nat.zero_le _) (by kernel_rfl) rfl rfl rfl rfl, st_load hb1 hb2 (by kernel_rfl) rfl rfl, st_two (by kernel_rfl) rfl rfl rfl, st_cat (by kernel_rfl) rfl rfl, st_load hb1 hb2 (by kernel_rfl) rfl rfl, st_three (by kernel_rfl) rfl rfl rfl rfl, st_alt (by kernel_rfl) rfl rfl, st_move (by kernel_rfl) rfl, st_move (by kernel_rfl) rfl, st_all hN hT2 hR2 HS (by kernel_rfl) rfl rfl rfl rfl rfl, st_move (by kernel_rfl) rfl, st_ext ext0 (by kernel_rfl) rfl rfl, st_ext ext1 (by kernel_rfl) rfl rfl, st_ext ext2 (by kernel_rfl) rfl rfl, st_assign (by kernel_rfl) rfl, st_assign (by kernel_rfl) rfl, st_assign (by kernel_rfl) rfl, trivial⟩ ?_
    intro xs4 w4 g4 ht
    obtain ⟨za, zc, e17, hv4⟩ := ht 16 _ 17 rfl rfl
    have e18 : xs4 18 = .bool cn := ht 17 _ 18 rfl rfl
    have e16 : xs4 16 = .bool (allOk (ln, cn, en)) := ht 18 _ 16 rfl rfl
    rw [hon] at e16
    have hSW := hidd (SameWays_any (G9.out.first.kept g4) hv4)
    have G10 := hidd (G9.out.grew.trans g4)
    simp only [List.foldl_cons, List.foldl_nil, List.setIfInBounds_toArray, List.set_cons_succ, List.set_cons_zero, e17, e18, e16]
    clear ht hb0 hb1 ha2 hb2 hR2 hT2 HR HT HS hb g4 hv4 G9 ha hN hon e16 e17 e18
    cases on
    · clear hSW
      go_wp2_with fail
      go_ret
      exact ⟨rfl, G10.out⟩
    · obtain ⟨hh1, rfl⟩ := HF.out.2 (by simp) (by simp)
      rw [hh1, decide_eq_true (rfl : _ = _)] at hSW
      rw [hh1]
      go_wp2_with fail
      refine hSW.out.mono ?_; rintro x w5 ⟨rfl, n5, rfl⟩
      go_wp2_with fail
      go_ret
      exact ⟨rfl, G10.out.drewN _⟩
  · cases cc
    all_goals
      go_wp2_with fail
      go_quiet (fail)
      have G9 := hidd (G3.out.on ((Grew.refl w3).drewN nq))
      clear G3
      go_wp2_with fail
      obtain ⟨HR, ha, hb, HS, HT, _, hN, _, hon⟩ := H.out
      have ha2 := ha.kept G9.out.grew
      have hb2 := hb.kept G9.out.grew
      have hR2 := HR.kept G9.out.grew
      have hT2 := HT.kept G9.out.grew
      have hb0 := G9.out.box0
      have hb1 := G9.out.box1
      refine region_frame [95, 96, 97, 98, 99, 100, 101, 102, 103, 104, 105, 106, 94, 107, 108, 109, 17, 18, 16] ([.val (.slice ra R.length rc), .pat a, .pat (someP 17 0 ⟨#[]⟩), .pat b, .kids [someP 17 0 ⟨#[]⟩, b], .pat (catP [someP 17 0 ⟨#[]⟩, b]), .pat b, .kids [a, catP [someP 17 0 ⟨#[]⟩, b], b], .pat (altP [a, catP [someP 17 0 ⟨#[]⟩, b], b]), .val (.string s), .val (.int .i64 at_), .fact (AllIs (ln, cn, en)) (AllIs.mono _), .fact (AllIs (ln, cn, en)) (AllIs.mono _), .fact (WaysIs ln) (WaysIs.mono _), .val (.bool cn), .val (.bool (allOk (ln, cn, en))), .fact (WaysIs ln) (WaysIs.mono _), .val (.bool cn), .val (.bool (allOk (ln, cn, en)))]) (by kernel_rfl) (by kernel_rfl)
        ⟨st_move (by kernel_rfl) rfl, st_load hb0 ha2 (by kernel_rfl) rfl rfl, st_some (by omega) (by omega) (Nat.zero_le _) (by kernel_rfl) rfl rfl rfl rfl, st_load hb1 hb2 (by kernel_rfl) rfl rfl, st_two (by kernel_rfl) rfl rfl rfl, st_cat (by kernel_rfl) rfl rfl, st_load hb1 hb2 (by kernel_rfl) rfl rfl, st_three (by kernel_rfl) rfl rfl rfl rfl, st_alt (by kernel_rfl) rfl rfl, st_move (by kernel_rfl) rfl, st_move (by kernel_rfl) rfl, st_all hN hT2 hR2 HS (by kernel_rfl) rfl rfl rfl rfl rfl, st_move (by kernel_rfl) rfl, st_ext ext0 (by kernel_rfl) rfl rfl, st_ext ext1 (by kernel_rfl) rfl rfl, st_ext ext2 (by kernel_rfl) rfl rfl, st_assign (by kernel_rfl) rfl, st_assign (by kernel_rfl) rfl, st_assign (by kernel_rfl) rfl, trivial⟩ ?_
      intro xs4 w4 g4 ht
      obtain ⟨za, zc, e17, hv4⟩ := ht 16 _ 17 rfl rfl
      have e18 : xs4 18 = .bool cn := ht 17 _ 18 rfl rfl
      have e16 : xs4 16 = .bool (allOk (ln, cn, en)) := ht 18 _ 16 rfl rfl
      rw [hon] at e16
      have hSW := hidd (SameWays_any (G9.out.first.kept g4) hv4)
      have G10 := hidd (G9.out.grew.trans g4)
      simp only [List.foldl_cons, List.foldl_nil, List.setIfInBounds_toArray, List.set_cons_succ, List.set_cons_zero, e17, e18, e16]
      clear ht hb0 hb1 ha2 hb2 hR2 hT2 HR HT HS hb g4 hv4 G9 ha hN hon e16 e17 e18
      cases on
      · clear hSW
        go_wp2_with fail
        go_ret
        exact ⟨rfl, G10.out⟩
      · obtain ⟨hh1, rfl⟩ := HF.out.2 (by simp) (by simp)
        rw [hh1, decide_eq_true (rfl : _ = _)] at hSW
        rw [hh1]
        go_wp2_with fail
        refine hSW.out.mono ?_; rintro x w5 ⟨rfl, n5, rfl⟩
        go_wp2_with fail
        go_ret
        exact ⟨rfl, G10.out.drewN _⟩
  · obtain ⟨x1, x2⟩ := x
    obtain ⟨bb, ob, rfl, hc1, a0, gv, a1, hgv⟩ : ∃ b1 o : Nat, ya = some ⟨b1, o, none⟩ ∧ 1 ≤ yc ∧ w3.cell? ⟨b1, o, none⟩ = some (.int .i64 x1) ∧ ∃ gv, w3.cell? ⟨b1, o + 1, none⟩ = some gv ∧ GiftsV w3 gv x2 := by
      rcases G3.out.second with ⟨_, _, e, e2⟩ | ⟨b, o, c, e, _, hc, _, h⟩
      · cases e2
      · cases e
        obtain ⟨h1, gv, h2, h3⟩ := h 0 (by simp)
        exact ⟨b, o, rfl, hc, h1, gv, h2, h3⟩
    obtain ⟨bc, oc, rfl, hc2, b0, gw, b1, hgw⟩ : ∃ b1 o : Nat, xa = some ⟨b1, o, none⟩ ∧ l.length + 1 ≤ xc ∧ w3.cell? ⟨b1, o, none⟩ = some (.int .i64 x1) ∧ ∃ gv, w3.cell? ⟨b1, o + 1, none⟩ = some gv ∧ GiftsV w3 gv x2 := by
      rcases G3.out.first with ⟨_, _, e, e2⟩ | ⟨b, o, c, e, _, hc, _, h⟩
      · cases e2
      · cases e
        obtain ⟨h1, gv, h2, h3⟩ := h 0 (by simp)
        exact ⟨b, o, rfl, hc, h1, gv, h2, h3⟩
    have HC : Hid (∀ n, Calls Tryd.prog 14 #[gv, gw] (w3.drewN n) fun e w' => e = .returned (.bool true) ∧ ∃ m, w' = (w3.drewN n).drewN m) :=
      fun n => (SameGifts_any (hgv.kept ((Grew.refl w3).drewN n)) (hgw.kept ((Grew.refl w3).drewN n))).mono fun e w' h => ⟨by rw [h.1]; simp, h.2⟩
    obtain ⟨_, _, rfl, _⟩ := hgv.len
    obtain ⟨_, _, rfl, _⟩ := hgw.len
    have f1 : ((x1 : Int) != (x1 : Int)) = false := by simp
    have hll : (l.length : Int) + 1 ≤ 9223372036854775807 := by
      obtain ⟨_, _, _, _, h⟩ := G3.out.first.len
      rw [List.length_cons] at h; omega
    clear hgv hgw
    rw [show [(x1, x2)].length = 1 from rfl] at G3 ⊢
    obtain ⟨N, hN⟩ : ∃ N, ((x1, x2) :: l).length = N := ⟨_, rfl⟩
    rw [hN] at G3 ⊢
    have hN1 : l.length + 1 = N := hN
    clear hN
    have hN2 : 1 ≤ N := by omega
    have hN3 : (N : Int) ≤ 9223372036854775807 := by omega
    have hN4 : N ≤ xc := by omega
    clear hN1 hc2 hll
    have f2 : decide ((0 : Int) < (N : Int)) = true := decide_eq_true (by omega)
    have f3 : decide (0 < N) = true := decide_eq_true (by omega)
    go_wp2_with fail
    go_quiet ((go_at_call 14; exact Calls.quiet_of (HC.out _)))
    have G9 := hidd (G3.out.on ((Grew.refl w3).drewN nq))
    clear G3 HC a0 a1 b0 b1
    go_wp2_with fail
    obtain ⟨HR, ha, hb, HS, HT, _, hN, _, hon⟩ := H.out
    have ha2 := ha.kept G9.out.grew
    have hb2 := hb.kept G9.out.grew
    have hR2 := HR.kept G9.out.grew
    have hT2 := HT.kept G9.out.grew
    have hb0 := G9.out.box0
    have hb1 := G9.out.box1
    refine region_frame [95, 96, 97, 98, 99, 100, 101, 102, 103, 104, 105, 106, 94, 107, 108, 109, 17, 18, 16] ([.val (.slice ra R.length rc), .pat a, .pat (someP 17 0 ⟨#[]⟩), .pat b, .kids [someP 17 0 ⟨#[]⟩, b], .pat (catP [someP 17 0 ⟨#[]⟩, b]), .pat b, .kids [a, catP [someP 17 0 ⟨#[]⟩, b], b], .pat (altP [a, catP [someP 17 0 ⟨#[]⟩, b], b]), .val (.string s), .val (.int .i64 at_), .fact (AllIs (ln, cn, en)) (AllIs.mono _), .fact (AllIs (ln, cn, en)) (AllIs.mono _), .fact (WaysIs ln) (WaysIs.mono _), .val (.bool cn), .val (.bool (allOk (ln, cn, en))), .fact (WaysIs ln) (WaysIs.mono _), .val (.bool cn), .val (.bool (allOk (ln, cn, en)))]) (by kernel_rfl) (by kernel_rfl)
      ⟨st_move (by kernel_rfl) rfl, st_load hb0 ha2 (by kernel_rfl) rfl rfl, st_some (by omega) (by omega) (Nat.zero_le _) (by kernel_rfl) rfl rfl rfl rfl, st_load hb1 hb2 (by kernel_rfl) rfl rfl, st_two (by kernel_rfl) rfl rfl rfl, st_cat (by kernel_rfl) rfl rfl, st_load hb1 hb2 (by kernel_rfl) rfl rfl, st_three (by kernel_rfl) rfl rfl rfl rfl, st_alt (by kernel_rfl) rfl rfl, st_move (by kernel_rfl) rfl, st_move (by kernel_rfl) rfl, st_all hN hT2 hR2 HS (by kernel_rfl) rfl rfl rfl rfl rfl, st_move (by kernel_rfl) rfl, st_ext ext0 (by kernel_rfl) rfl rfl, st_ext ext1 (by kernel_rfl) rfl rfl, st_ext ext2 (by kernel_rfl) rfl rfl, st_assign (by kernel_rfl) rfl, st_assign (by kernel_rfl) rfl, st_assign (by kernel_rfl) rfl, trivial⟩ ?_
    intro xs4 w4 g4 ht
    obtain ⟨za, zc, e17, hv4⟩ := ht 16 _ 17 rfl rfl
    have e18 : xs4 18 = .bool cn := ht 17 _ 18 rfl rfl
    have e16 : xs4 16 = .bool (allOk (ln, cn, en)) := ht 18 _ 16 rfl rfl
    rw [hon] at e16
    have hSW := hidd (SameWays_any (G9.out.first.kept g4) hv4)
    have G10 := hidd (G9.out.grew.trans g4)
    simp only [List.foldl_cons, List.foldl_nil, List.setIfInBounds_toArray, List.set_cons_succ, List.set_cons_zero, e17, e18, e16]
    clear ht hb0 hb1 ha2 hb2 hR2 hT2 HR HT HS hb g4 hv4 G9 ha hN hon e16 e17 e18
    cases on
    · clear hSW
      go_wp2_with fail
      go_ret
      exact ⟨rfl, G10.out⟩
    · obtain ⟨hh1, rfl⟩ := HF.out.2 (by simp) (by simp)
      rw [hh1, decide_eq_true (rfl : _ = _)] at hSW
      rw [hh1]
      go_wp2_with fail
      refine hSW.out.mono ?_; rintro x w5 ⟨rfl, n5, rfl⟩
      go_wp2_with fail
      go_ret
      exact ⟨rfl, G10.out.drewN _⟩
end
end Go.Proofs.YtmkldfjcpmoajabDoor
