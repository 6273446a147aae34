/- tune: measure at every right pattern. -/
import Derived.Test.YtglfdfeideeeaaaDoorTnMeas
import Derived.Test.YtglfdfeideeeaaaDoorTnSimp
namespace Go.Proofs.YtglfdfeideeeaaaDoor
open Go.RowKit
set_option linter.unusedVariables false
theorem meas_at (p : Pat) (b o : Nat) (kv : Value) (w : World) (h : MeasIn p b o kv w) : Calls Tryd.prog 15 #[.pointer (some ⟨b, o, none⟩)] w (MeasEnd (measureP p) w) := by
  obtain ⟨k, t, n, m, l⟩ := p
  have hk : 1 ≤ k ∧ k ≤ 24 := h.right.kind
  have hc : k = 1 ∨ k = 2 ∨ k = 3 ∨ k = 4 ∨ k = 5 ∨ k = 6 ∨ k = 7 ∨ k = 8 ∨ k = 9 ∨ k = 10 ∨ k = 11 ∨ k = 12 ∨ k = 13 ∨ k = 14 ∨ k = 15 ∨ k = 16 ∨ k = 17 ∨ k = 18 ∨ k = 19 ∨ k = 20 ∨ k = 21 ∨ k = 22 ∨ k = 23 ∨ k = 24 := by omega
  rcases hc with rfl | rfl | rfl | rfl | rfl | rfl | rfl | rfl | rfl | rfl | rfl | rfl | rfl | rfl | rfl | rfl | rfl | rfl | rfl | rfl | rfl | rfl | rfl | rfl
  · exact meas_k1 t n m l b o kv w h
  · exact meas_k2 t n m l b o kv w h
  · exact meas_k3 t n m l b o kv w h
  · exact meas_k4 t n m l b o kv w h
  · exact meas_k5 t n m l b o kv w h
  · exact meas_k6 t n m l b o kv w h
  · exact meas_k7 t n m l b o kv w h
  · exact meas_k8 t n m l b o kv w h
  · exact meas_k9 t n m l b o kv w h
  · exact meas_k10 t n m l b o kv w h
  · exact meas_k11 t n m l b o kv w h
  · exact meas_k12 t n m l b o kv w h
  · exact meas_k13 t n m l b o kv w h
  · exact meas_k14 t n m l b o kv w h
  · exact meas_k15 t n m l b o kv w h
  · exact meas_k16 t n m l b o kv w h
  · exact meas_k17 t n m l b o kv w h
  · exact meas_k18 t n m l b o kv w h
  · exact meas_k19 t n m l b o kv w h
  · cases e1 : (measureP (l.getD 0 Pat.zero)).never with
    | true => exact meas_k20a t n m l b o kv w h e1
    | false =>
      by_cases e2 : (measureP (l.getD 0 Pat.zero)).most = 0
      · exact meas_k20b t n m l b o kv w h e1 e2
      · exact meas_k20c t n m l b o kv w h e1 e2
  · exact meas_k21 t n m l b o kv w h
  · exact meas_k22 t n m l b o kv w h
  · exact meas_k23 t n m l b o kv w h
  · exact meas_k24 t n m l b o kv w h
theorem fold_ok {f : Bd → Bd → Bd} (hf : ∀ b c, BdOk b → BdOk c → BdOk (f b c)) : ∀ (l : List Bd), (∀ b ∈ l, BdOk b) → BdOk (foldB f l)
  | [], _ => ⟨by show (0 : Int) ≤ 0; omega, by show (0 : Int) ≤ 65537; omega, by show (-1 : Int) ≤ 0; omega, by show (0 : Int) ≤ 65536; omega⟩
  | a :: l, h => by
    show BdOk (l.foldl f a)
    have ha := h a (by simp)
    have hl : ∀ b ∈ l, BdOk b := fun b hb => h b (by simp [hb])
    clear h
    induction l generalizing a with
    | nil => exact ha
    | cons x l ih => exact ih (f a x) (hf _ _ ha (hl x (by simp))) (fun b hb => hl b (by simp [hb]))
theorem measK_ok {k : Int} {t : ByteArray} {n : Int} {m : ByteArray} {l : List Pat} {bs : List Bd} (h : NodeOk (.mk k t n m l)) (hb : ∀ b ∈ bs, BdOk b) : BdOk (measK k t n bs) := by
  have h1 := h.lit
  have h2 := h.num
  simp only [Pat.kind, Pat.text, Pat.n] at h1 h2
  have key : ∀ (x y : Int) (z : Bool), 0 ≤ x → x ≤ 65537 → -1 ≤ y → y ≤ 65536 → BdOk ⟨x, y, z⟩ := fun x y z a b c d => ⟨a, b, c, d⟩
  unfold measK
  refine iteInduction (motive := BdOk) (fun e => ?_) (fun _ => ?_)
  · have := h1 e; exact key _ _ _ (by omega) (by omega) (by omega) (by omega)
  refine iteInduction (motive := BdOk) (fun e => ?_) (fun _ => ?_)
  · have := h2 (Or.inl e); exact key _ _ _ (by omega) (by omega) (by omega) (by omega)
  refine iteInduction (motive := BdOk) (fun e => key _ _ _ (by omega) (by omega) (by omega) (by omega)) (fun _ => ?_)
  refine iteInduction (motive := BdOk) (fun e => key _ _ _ (by omega) (by omega) (by omega) (by omega)) (fun _ => ?_)
  refine iteInduction (motive := BdOk) (fun e => key _ _ _ (by omega) (by omega) (by omega) (by omega)) (fun _ => ?_)
  refine iteInduction (motive := BdOk) (fun e => key _ _ _ (by omega) (by omega) (by omega) (by omega)) (fun _ => ?_)
  refine iteInduction (motive := BdOk) (fun e => fold_ok (fun b c => then_ok) bs hb) (fun _ => ?_)
  refine iteInduction (motive := BdOk) (fun e => fold_ok (fun b c => or_ok) bs hb) (fun _ => ?_)
  refine iteInduction (motive := BdOk) (fun e => ?_) (fun _ => ?_)
  · refine iteInduction (motive := BdOk) (fun e => key _ _ _ (by omega) (by omega) (by omega) (by omega)) (fun _ => key _ _ _ (by omega) (by omega) (by omega) (by omega))
  refine iteInduction (motive := BdOk) (fun e => fold_ok (fun b c => then_ok) bs hb) (fun _ => key _ _ _ (by omega) (by omega) (by omega) (by omega))
mutual
theorem measureP_ok : ∀ p : Pat, errW p = 0 → BdOk (measureP p)
  | .mk k t n m l, h => by
    obtain ⟨h1, h2⟩ := (errW_iff _).1 h
    rw [measureP]
    exact measK_ok h1 (measureL_ok l h2)
theorem measureL_ok : ∀ l : List Pat, (∀ q ∈ l, errW q = 0) → ∀ b ∈ measureL l, BdOk b
  | [], _, b, hb => by cases hb
  | p :: l, h, b, hb => by
    rw [measureL] at hb
    rcases List.mem_cons.1 hb with rfl | hb
    · exact measureP_ok p (h p (by simp))
    · exact measureL_ok l (fun x hx => h x (by simp [hx])) b hb
end
theorem getD_mem' {l : List Pat} {i : Nat} (h : i < l.length) : l.getD i Pat.zero ∈ l := by
  rw [List.getD_eq_getElem?_getD, List.getElem?_eq_getElem h]; exact List.getElem_mem h
theorem meas_fuel : ∀ (f : Nat) (p : Pat) (b o : Nat) (w : World), nodesP p ≤ f → PatAt w b o p → errW p = 0 → Calls Tryd.prog 15 #[.pointer (some ⟨b, o, none⟩)] w (MeasEnd (measureP p) w)
  | 0, p, b, o, w, hf, _, _ => by have := nodes_pos p; omega
  | f + 1, p, b, o, w, hf, hp, hr => by
    obtain ⟨kv, hn, hk⟩ := hp.open
    obtain ⟨h1, h2⟩ := (errW_iff _).1 hr
    refine meas_at p b o kv w ⟨hn, h1, fun h0 => ?_, fun i hi => measureP_ok _ (h2 _ (getD_mem' hi))⟩
    rcases hk with ⟨a, c, _, e⟩ | ⟨b', o', c, rfl, _, hc, hc', hl⟩
    · rw [e] at h0; simp at h0
    · refine ⟨b', o', c, rfl, hc, hc', fun i hi w' g => meas_fuel f _ b' (o' + i * 5) w' ?_ ((hl i hi).kept g) (h2 _ (getD_mem' hi))⟩
      have : nodesP (p.kids.getD i Pat.zero) + 1 ≤ nodesP p := by
        obtain ⟨k, t, n, m, l⟩ := p
        have := nodes_mem (getD_mem' (show i < l.length from hi))
        show nodesP (l.getD i Pat.zero) + 1 ≤ _
        rw [nodesP]; omega
      omega
theorem measure_any {p : Pat} {b o : Nat} {w : World} (hp : PatAt w b o p) (hr : errW p = 0) : Calls Tryd.prog 15 #[.pointer (some ⟨b, o, none⟩)] w (MeasEnd (measureP p) w) := meas_fuel _ p b o w (Nat.le_refl _) hp hr
end Go.Proofs.YtglfdfeideeeaaaDoor
namespace Go.Proofs.YtglfdfeideeeaaaDoor
open Go.RowKit
set_option linter.unusedVariables false
def lengthOf (p : Pat) : Int × Int × Int := if patErr p = 0 then (if (measureP p).never = true then (0, 0, 6) else ((measureP p).least, (measureP p).most, 0)) else (0, 0, patErr p)
set_option maxRecDepth 100000 in
set_option maxHeartbeats 1000000 in
theorem Length_any (p : Pat) (kv : Value) (w : World) (hv : PatV w kv p) :
    Calls Tryd.prog 7 #[.agg (p.cells kv)] w fun e w' => e = .returned (.tuple #[.int .i64 (lengthOf p).1, .int .i64 (lengthOf p).2.1, .int .i64 (lengthOf p).2.2]) ∧ Grew w w' := by
  have HW : Hid (∀ w1, Grew w w1 → Calls Tryd.prog 11 #[.agg (p.cells kv)] w1 fun e w' => e = .returned (.int .i64 (patErr p)) ∧ Grew w1 w') := fun w1 g => Wrong_any kv p w1 (hv.kept g)
  have HB := hidd (hv.box 24)
  have HH0 : Hid ((w.alloc (.cells (p.cells kv) 24)).heap[w.heap.size]? = some (.cells (p.cells kv) 24 (0, 0))) := heap_alloc_new w _
  clear hv
  rw [cells_eq] at HW HB HH0 ⊢
  by_cases h0 : patErr p = 0
  · have HM : Hid (∀ w1, Grew (w.alloc (.cells #[.int .i64 p.kind, .string p.text, .int .i64 p.n, .string p.name, kv] 24)) w1 → Calls Tryd.prog 15 #[.pointer (some ⟨w.heap.size, 0, none⟩)] w1 (MeasEnd (measureP p) w1)) := fun w1 g => measure_any (HB.out.kept g) ((patErr_iff p).1 h0).1
    rw [h0] at HW
    have HL : Hid (lengthOf p = if (measureP p).never = true then (0, 0, 6) else ((measureP p).least, (measureP p).most, 0)) := if_pos h0
    rw [HL.out]
    obtain ⟨B, hB⟩ : ∃ B, measureP p = B := ⟨_, rfl⟩
    rw [hB] at HM ⊢
    obtain ⟨bl, bm, bn⟩ := B
    clear h0 hB HL HB
    unfold MeasEnd Bd.cells at HM
    cases bn
    all_goals
      go_enter Tryd.func7, Tryd.ntmps7
      go_wp2_with fail
      refine (HW.out _ ((Grew.refl w).alloc _)).mono ?_; rintro e w1 ⟨rfl, g1⟩
      have HG := hidd g1
      clear g1
      go_wp2_with fail
      refine (HM.out _ HG.out).mono ?_; rintro e w2 ⟨rfl, g2⟩
      have HG2 := hidd (((Grew.refl w).alloc _).trans (HG.out.trans g2))
      clear g2
      go_wp2_with fail
    · go_region_with fail
      all_goals
        go_wp2_with fail
        exact bodyPost_ret (by simp [results, Tryd.results7]) rfl ⟨rfl, (HG2.out.alloc _).drew⟩
    · exact bodyPost_ret (by simp [results, Tryd.results7]) rfl ⟨rfl, HG2.out.alloc _⟩
  · have HL : Hid (lengthOf p = (0, 0, patErr p)) := if_neg h0
    rw [HL.out]
    obtain ⟨z, hz⟩ : ∃ z, patErr p = z := ⟨_, rfl⟩
    rw [hz] at HW ⊢
    have kz : (z == 0) = false := by rw [beq_eq_false_iff_ne, ← hz]; exact h0
    clear h0 hz HL HB
    go_enter Tryd.func7, Tryd.ntmps7
    go_wp2_with fail
    refine (HW.out _ ((Grew.refl w).alloc _)).mono ?_; rintro e w1 ⟨rfl, g1⟩
    have HG := hidd (((Grew.refl w).alloc _).trans g1)
    clear g1
    go_wp2_with fail
    refine bodyPost_ret (by simp [results, Tryd.results7]) rfl ⟨rfl, HG.out⟩
end Go.Proofs.YtglfdfeideeeaaaDoor
namespace Go.Proofs.YtglfdfeideeeaaaDoor
open Go.RowKit
set_option linter.unusedVariables false
end Go.Proofs.YtglfdfeideeeaaaDoor
