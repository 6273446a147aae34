/- pats.wrong: at every node. -/
import Derived.Test.YtkkdpafkafjfgaaDoorShScNodeA
import Derived.Test.YtkkdpafkafjfgaaDoorShPScNodeB
import Derived.Test.YtkkdpafkafjfgaaDoorShScPat
import Derived.OpenShut
import Derived.Deep.Slices
import Derived.WideShapes
namespace Go.Proofs.YtkkdpafkafjfgaaDoor
open Go.RowKit
set_option linter.unusedVariables false
theorem wrong_node {w : World} {b o : Nat} {p : Pat} {v : Value} (h1 : NodeAt w b o p v) (h2 : KidsAt w v p.kids) : Told w b o (nodeErr p) := by
  have h := h1.seen h2
  unfold nodeErr
  have hm : ∀ lo hi, (p.kids.length < lo → Told w b o 5) → (hi < p.kids.length → Told w b o 5) → (lo ≤ p.kids.length → p.kids.length ≤ hi → Told w b o 0) → Told w b o (manyErr p.kids.length lo hi) := by
    intro lo hi x y z
    unfold manyErr
    split
    · rename_i hh
      rcases hh with hh | hh
      · exact x hh
      · exact y hh
    · exact z (by omega) (by omega)
  split
  · rename_i hk; exact wrong_none h hk
  rename_i hk0
  split
  · rename_i hk
    split
    · rename_i hs; exact wrong_text h (Or.inl hk) hs
    · rename_i hs; exact hm 0 0 (fun x => by omega) (wrong_lit_more h hk (by omega)) (wrong_lit_ok h hk (by omega))
  rename_i hk1
  split
  · rename_i hk
    split
    · rename_i hs; exact wrong_text h (Or.inr hk) hs
    · split
      · rename_i hs; exact wrong_empty h hk hs
      · exact hm 0 0 (fun x => by omega) (wrong_set_more h hk (by omega) (by omega)) (wrong_set_ok h hk (by omega) (by omega))
  rename_i hk2
  split
  · rename_i hk
    split
    · rename_i hs
      rcases hs with hs | hs
      · exact wrong_low h hk hs
      · exact wrong_high h hk hs
    · exact hm 0 0 (fun x => by omega) (wrong_num_more h hk (by omega) (by omega)) (wrong_num_ok h hk (by omega) (by omega))
  rename_i hk3
  split
  · rename_i hk; exact hm 2 4096 (wrong_cat_few h hk) (wrong_cat_more h hk) (wrong_cat_ok h hk)
  rename_i hk4
  split
  · rename_i hk; exact hm 1 1 (wrong_arbno_few h hk) (wrong_arbno_more h hk) (wrong_arbno_ok h hk)
  rename_i hk5
  split
  · rename_i hk
    split
    · rename_i hs; exact wrong_name h (by omega) hs
    · rename_i hs; exact hm 1 1 (wrong_give_few h hk (by simpa using hs)) (wrong_give_more h hk (by simpa using hs)) (wrong_give_ok h hk (by simpa using hs))
  rename_i hk6
  split
  · rename_i hk
    split
    · rename_i hs; exact wrong_name h (by omega) hs
    · rename_i hs; exact hm 0 0 (fun x => by omega) (wrong_call_more h hk (by simpa using hs)) (wrong_call_ok h hk (by simpa using hs))
  rename_i hk7
  exact hm 0 0 (fun x => by omega) (wrong_plain_more h (by omega)) (wrong_plain_ok h (by omega))
end Go.Proofs.YtkkdpafkafjfgaaDoor
namespace Go.Proofs.YtkkdpafkafjfgaaDoor
open Go.RowKit
set_option linter.unusedVariables false
mutual
def errW : Pat → Int
  | .mk k t n m l => if nodeErr (.mk k t n m l) = 0 then errL l else nodeErr (.mk k t n m l)
def errL : List Pat → Int
  | [] => 0
  | p :: l => if errW p = 0 then errL l else errW p
end
def patErr (p : Pat) : Int := if (sizeW p 1 0 0).1 = true then errW p else 4
theorem errL_step (l : List Pat) (k : Nat) (h : k < l.length) : errL (l.drop k) = if errW (l.getD k Pat.zero) = 0 then errL (l.drop (k + 1)) else errW (l.getD k Pat.zero) := by
  rw [List.drop_eq_getElem_cons h]
  rw [show l.getD k Pat.zero = l[k] by rw [List.getD_eq_getElem?_getD, List.getElem?_eq_getElem h]; rfl]
  rw [errL]
theorem wrong_visit (b o : Nat) (d : Int) (be : Nat) (E : Int) (F : Int) (w : World) (t : TypeId) (hc : w.heap[be]? = some (.cells #[.int .i64 F] t (0, 0)))
    (hT : Told w b o E) :
    Calls Tryd.prog 55 #[.pointer (some ⟨b, o, none⟩), .int .i64 d, .pointer (some ⟨be, 0, none⟩)] w fun e w' =>
      e = .returned (.bool (E == 0)) ∧ w' = w.setCell ⟨be, 0, none⟩ (.int .i64 E) := by
  have c1 := cell_of_one hc
  have f1 := free_of_one hc
  have c1' : ∀ u, (w.setCell ⟨be, 0, none⟩ u).cell? ⟨be, 0, none⟩ = some u := fun u => setCell_cell_same rfl c1
  have HT := hidd hT
  clear hc hT
  go_enter Tryd.func55, Tryd.ntmps55
  go_wp2_with fail
  refine HT.out.mono ?_; rintro e w2 ⟨rfl, rfl⟩
  go_wp2_with fail
  go_ret
  exact ⟨rfl, rfl⟩
structure ErrEnd (w0 : World) (be : Nat) (t : TypeId) (E : Int) (w' : World) : Prop where
  c : w'.heap[be]? = some (.cells #[.int .i64 E] t (0, 0))
  grew : Grew w0 w'
theorem ErrEnd.set {w0 w : World} {be : Nat} {t : TypeId} {E F : Int} (hb : w0.heap.size ≤ be) (h : ErrEnd w0 be t E w) : ErrEnd w0 be t F (w.setCell ⟨be, 0, none⟩ (.int .i64 F)) :=
  ⟨one_setCell h.c, h.grew.setCell hb _⟩
set_option maxRecDepth 100000 in
theorem walk_wrong (w0 : World) (be : Nat) (t : TypeId) (hbe : w0.heap.size ≤ be) {b o : Nat} {p : Pat} (hp : PatAt w0 b o p) :
    ∀ (d F : Int) (w : World), ErrEnd w0 be t F w →
    Calls Tryd.prog 54 #[.pointer (some ⟨b, o, none⟩), .int .i64 d, .func (.func 55) #[] #[.pointer (some ⟨be, 0, none⟩)]] w fun e w' =>
      e = .returned (.bool (errW p == 0)) ∧ ErrEnd w0 be t (errW p) w' := by
  induction hp with
  | leaf b o k tx n m a c c0 c1 c2 c3 c4 hk hn ht hm =>
    intro d F w hw
    have hn : NodeAt w b o (.mk k tx n m []) (.slice a 0 c) := NodeAt.kept hw.grew ⟨c0, c1, c2, c3, c4, hk, hn, ht, hm⟩
    obtain ⟨E, hE⟩ : ∃ E, nodeErr (.mk k tx n m []) = E := ⟨_, rfl⟩
    have hT := wrong_node hn (Or.inl ⟨_, _, rfl, rfl⟩)
    rw [hE] at hT
    have HV := hidd (wrong_visit b o d be E F w t hw.c hT)
    have hW : Hid (ErrEnd w0 be t E (w.setCell ⟨be, 0, none⟩ (.int .i64 E))) := hw.set hbe
    have g5 : (w.setCell ⟨be, 0, none⟩ (.int .i64 E)).cell? ⟨b, o + 4, none⟩ = some (.slice a 0 c) := hW.out.grew.keeps c4
    obtain ⟨w1, hw1⟩ : ∃ w1, w.setCell ⟨be, 0, none⟩ (.int .i64 E) = w1 := ⟨_, rfl⟩
    rw [hw1] at HV hW g5
    clear hw1 c0 c1 c2 c3 c4 hn hT hw
    by_cases g : E = 0
    · have e : errW (.mk k tx n m []) = 0 := by rw [errW, hE, if_pos g]; rfl
      have g' : (E == 0) = true := by simpa using g
      rw [g'] at HV
      have E1 := hidd e
      have G := hidd g
      clear e g g' hE
      go_enter Tryd.func54, Tryd.ntmps54
      go_wp2_with fail
      refine HV.out.mono ?_; rintro e w2 ⟨rfl, rfl⟩
      go_wp2_with fail
      go_loop [18] (fun u => u = .int .i64 0) (fun _ => 0)
      case atStart => rfl
      case round =>
        obtain rfl := hrel
        go_wp2_with fail
        go_ret
        rw [E1.out]
        exact ⟨rfl, by have := hW.out; rw [G.out] at this; exact this⟩
    · have e : errW (.mk k tx n m []) = E := by rw [errW, hE, if_neg g]
      have g' : (E == 0) = false := by simpa using g
      rw [g'] at HV
      have E1 := hidd e
      have G := hidd g'
      clear e g g' hE
      go_enter Tryd.func54, Tryd.ntmps54
      go_wp2_with fail
      refine HV.out.mono ?_; rintro e w2 ⟨rfl, rfl⟩
      go_wp2_with fail
      go_ret
      rw [E1.out]
      exact ⟨ret_bool G.out.symm, hW.out⟩
  | node b o k tx n m l b' o' c c0 c1 c2 c3 c4 hk hn ht hm h0 hc hc' hl ih =>
    intro d F w hw
    have hn : NodeAt w b o (.mk k tx n m l) (.slice (some ⟨b', o', none⟩) l.length c) := NodeAt.kept hw.grew ⟨c0, c1, c2, c3, c4, hk, hn, ht, hm⟩
    obtain ⟨E, hE⟩ : ∃ E, nodeErr (.mk k tx n m l) = E := ⟨_, rfl⟩
    have hT := wrong_node hn (Or.inr ⟨b', o', c, rfl, h0, hc, hc', fun i hi => (hl i hi).kept hw.grew⟩)
    rw [hE] at hT
    have HV := hidd (wrong_visit b o d be E F w t hw.c hT)
    have hW : Hid (ErrEnd w0 be t E (w.setCell ⟨be, 0, none⟩ (.int .i64 E))) := hw.set hbe
    have g5 : (w.setCell ⟨be, 0, none⟩ (.int .i64 E)).cell? ⟨b, o + 4, none⟩ = some (.slice (some ⟨b', o', none⟩) l.length c) := hW.out.grew.keeps c4
    obtain ⟨w1, hw1⟩ : ∃ w1, w.setCell ⟨be, 0, none⟩ (.int .i64 E) = w1 := ⟨_, rfl⟩
    rw [hw1] at HV hW g5
    have HC4 := hidd c4
    have IH := hidd ih
    unfold maxLen at hc'
    clear hw1 ih hl c0 c1 c2 c3 c4 hn hT hw ht hm
    by_cases g : E = 0
    · have e : errW (.mk k tx n m l) = errL l := by rw [errW, hE, if_pos g]
      have g' : (E == 0) = true := by simpa using g
      rw [g'] at HV
      have E1 := hidd e
      have hW2 : Hid (ErrEnd w0 be t 0 w1) := by have := hW.out; rw [g] at this; exact this
      clear e g g' hE hW
      go_enter Tryd.func54, Tryd.ntmps54
      go_wp2_with fail
      refine HV.out.mono ?_; rintro e w2 ⟨rfl, rfl⟩
      go_wp2_with fail
      go_loopw [18] (fun u wr => ∃ i : Nat, i ≤ l.length ∧ u = .int .i64 i ∧ Hid (ErrEnd w0 be t 0 wr) ∧ Hid (errL l = errL (l.drop i))) (fun u _ => l.length - (intOf u).toNat)
      case atStart => exact ⟨0, by omega, rfl, hW2, rfl⟩
      case round =>
        obtain ⟨i, hi, rfl, hR, HS⟩ := hrel
        clear g5
        have g6 := hR.out.grew.keeps HC4.out
        by_cases hlt : i < l.length
        · have hs := errL_step l i hlt
          obtain ⟨e, he⟩ : ∃ e, errW (l.getD i Pat.zero) = e := ⟨_, rfl⟩
          have HK : Hid (∀ d, Calls Tryd.prog 54 #[.pointer (some ⟨b', o' + i * 5, none⟩), .int .i64 d, .func (.func 55) #[] #[.pointer (some ⟨be, 0, none⟩)]] wr fun x w' => x = .returned (.bool (e == 0)) ∧ ErrEnd w0 be t e w') := by
            have := fun d => IH.out i hlt d 0 wr hR.out
            rw [he] at this
            exact this
          rw [he] at hs
          have HSS := hidd (HS.out.trans hs)
          clear hs he
          by_cases e0 : e = 0
          · have e0' : (e == 0) = true := by simpa using e0
            rw [e0'] at HK
            have E0 := hidd e0
            clear e0 e0'
            go_wp2_with fail
            refine (HK.out _).mono ?_; rintro x w2 ⟨rfl, hE⟩
            have hE' := hidd hE
            clear hE
            go_wp2_with fail
            go_roundw
            case rel => exact ⟨i + 1, by omega, by go_num, by have := hE'.out; rw [E0.out] at this; exact this, by rw [Hid, HSS.out, if_pos E0.out]⟩
            case measure => simp [intOf]; omega
          · have e0' : (e == 0) = false := by simpa using e0
            rw [e0'] at HK
            have E0 := hidd e0
            have E0' := hidd e0'
            clear e0 e0'
            go_wp2_with fail
            refine (HK.out _).mono ?_; rintro x w2 ⟨rfl, hE⟩
            have hE' := hidd hE
            clear hE
            go_wp2_with fail
            go_ret
            rw [E1.out, HSS.out, if_neg E0.out]
            exact ⟨ret_bool E0'.out.symm, hE'.out⟩
        · obtain rfl : i = l.length := by omega
          have HE2 := hidd (HS.out.trans (show errL (l.drop l.length) = 0 by rw [List.drop_length]; rfl))
          go_wp2_with fail
          go_ret
          rw [E1.out, HE2.out]
          exact ⟨rfl, hR.out⟩
    · have e : errW (.mk k tx n m l) = E := by rw [errW, hE, if_neg g]
      have g' : (E == 0) = false := by simpa using g
      rw [g'] at HV
      have E1 := hidd e
      have G := hidd g'
      clear e g g' hE
      go_enter Tryd.func54, Tryd.ntmps54
      go_wp2_with fail
      refine HV.out.mono ?_; rintro e w2 ⟨rfl, rfl⟩
      go_wp2_with fail
      go_ret
      rw [E1.out]
      exact ⟨ret_bool G.out.symm, hW.out⟩
end Go.Proofs.YtkkdpafkafjfgaaDoor
namespace Go.Proofs.YtkkdpafkafjfgaaDoor
open Go.RowKit
set_option linter.unusedVariables false
theorem err_start (w1 : World) (t : TypeId) : ErrEnd w1 w1.heap.size t 0 (w1.alloc (.cells #[.int .i64 0] t)) :=
  ⟨heap_alloc_new _ _, (Grew.refl _).alloc _⟩
set_option maxRecDepth 100000 in
theorem Wrong_any (kv : Value) (p : Pat) (w : World) (hp : PatV w kv p) :
    Calls Tryd.prog 25 #[.agg (p.cells kv)] w fun e w' => e = .returned (.int .i64 (patErr p)) ∧ Grew w w' := by
  have HB := hidd (hp.box 24)
  have HZ : Hid (∀ w1, Grew w w1 → _) := fun w1 h => Size_any kv p w1 (hp.kept h)
  obtain ⟨r, N, D, hr⟩ : ∃ r N D, sizeW p 1 0 0 = (r, N, D) := ⟨_, _, _, rfl⟩
  rw [hr] at HZ
  unfold Pat.cells at HZ HB ⊢
  cases r with
  | true =>
    have HE : Hid (patErr p = errW p) := by rw [Hid, patErr, hr]; rfl
    clear hr hp
    go_enter Tryd.func25, Tryd.ntmps25
    go_wp2_with fail
    refine (HZ.out _ ((Grew.refl w).alloc _)).mono ?_; rintro e w2 ⟨rfl, G2⟩
    have HB2 := hidd (HB.out.kept G2)
    have HW := fun d => walk_wrong w2 w2.heap.size 31 (Nat.le_refl _) HB2.out d 0 _ (err_start w2 31)
    have HW2 := hidd HW
    have G3 := hidd (((Grew.refl w).alloc _).trans G2)
    clear HW G2
    go_wp2_with fail
    refine (HW2.out _).mono ?_; rintro e w3 ⟨rfl, hE⟩
    have c1 := cell_of_one hE.c
    have G4 := hidd (G3.out.trans hE.grew)
    clear hE
    go_wp2_with fail
    go_ret
    rw [HE.out]
    exact ⟨rfl, G4.out⟩
  | false =>
    have HE : Hid (patErr p = 4) := by rw [Hid, patErr, hr]; rfl
    clear hr hp
    go_enter Tryd.func25, Tryd.ntmps25
    go_wp2_with fail
    refine (HZ.out _ ((Grew.refl w).alloc _)).mono ?_; rintro e w2 ⟨rfl, G2⟩
    have G3 := hidd (((Grew.refl w).alloc _).trans G2)
    clear G2
    go_wp2_with fail
    go_ret
    rw [HE.out]
    exact ⟨rfl, G3.out⟩
end Go.Proofs.YtkkdpafkafjfgaaDoor
namespace Go.Proofs.YtkkdpafkafjfgaaDoor
open Go.RowKit
set_option linter.unusedVariables false
def Rule.zero : Rule := (ByteArray.empty, Pat.zero)
def Rule.cells (r : Rule) (kv : Value) : Array Value := #[.string r.1, .int .i64 r.2.kind, .string r.2.text, .int .i64 r.2.n, .string r.2.name, kv]
end Go.Proofs.YtkkdpafkafjfgaaDoor
namespace Go.Proofs.YtkkdpafkafjfgaaDoor
open Go.RowKit
set_option linter.unusedVariables false
end Go.Proofs.YtkkdpafkafjfgaaDoor
namespace Go.Proofs.YtkkdpafkafjfgaaDoor
open Go.RowKit Go.ChangeShapes
set_option linter.unusedVariables false
section
variable {H : Type} {enc : TypeId × Value → H} {w : World} {base : Nat} {sp : Nat → Bool} {hd : Bool}
end
theorem laidOut : laidOutB Tryd.prog = true := by kernel_rfl
end Go.Proofs.YtkkdpafkafjfgaaDoor
