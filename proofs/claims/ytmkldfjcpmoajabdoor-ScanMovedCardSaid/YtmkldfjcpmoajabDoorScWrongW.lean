/- The walk of pats.Wrong: at every pattern. -/
import Derived.Test.YtmkldfjcpmoajabDoorScNode
import Derived.Test.YtmkldfjcpmoajabDoorScSize
namespace Go.Proofs.YtmkldfjcpmoajabDoor
open Go.RowKit
set_option linter.unusedVariables false

/-! The first node that is wrong, each ahead of its kids. -/
mutual
def errW : Pat → Int
  | .mk k t n m l => if nodeErr (.mk k t n m l) = 0 then errL l else nodeErr (.mk k t n m l)
def errL : List Pat → Int
  | [] => 0
  | p :: l => if errW p = 0 then errL l else errW p
end
/-- What is wrong with a pattern. -/
def patErr (p : Pat) : Int := if (sizeW p 1 0 0).1 = true then errW p else 4
theorem errL_step (l : List Pat) (k : Nat) (h : k < l.length) : errL (l.drop k) = if errW (l.getD k Pat.zero) = 0 then errL (l.drop (k + 1)) else errW (l.getD k Pat.zero) := by
  rw [List.drop_eq_getElem_cons h]
  rw [show l.getD k Pat.zero = l[k] by rw [List.getD_eq_getElem?_getD, List.getElem?_eq_getElem h]; rfl]
  rw [errL]

theorem wrong_visit (b o : Nat) (d : Int) (be : Nat) (E : Int) (F : Int) (w : World) (t : TypeId) (hc : w.heap[be]? = some (.cells #[.int .i64 F] t (0, 0)))
    (hT : Told w b o E) :
    Calls Tryd.prog 33 #[.pointer (some ⟨b, o, none⟩), .int .i64 d, .pointer (some ⟨be, 0, none⟩)] w fun e w' =>
      e = .returned (.bool (E == 0)) ∧ w' = w.setCell ⟨be, 0, none⟩ (.int .i64 E) := by
  have c1 := cell_of_one hc
  have f1 := free_of_one hc
  have c1' : ∀ u, (w.setCell ⟨be, 0, none⟩ u).cell? ⟨be, 0, none⟩ = some u := fun u => setCell_cell_same rfl c1
  have HT := hidd hT
  clear hc hT
  go_enter Tryd.func33, Tryd.ntmps33
  go_wp2_with fail
  refine HT.out.mono ?_; rintro e w2 ⟨rfl, rfl⟩
  go_wp2_with fail
  go_ret
  exact ⟨rfl, rfl⟩

structure ErrEnd (w0 : World) (be : Nat) (t : TypeId) (E : Int) (w' : World) : Prop where
  c : w'.heap[be]? = some (.cells #[.int .i64 E] t (0, 0))
  grew : Grew w0 w'
theorem ErrEnd.set {w0 w : World} {be : Nat} {t : TypeId} {E F : Int} (hb : w0.heap.size ≤ be) (h : ErrEnd w0 be t E w) : ErrEnd w0 be t F (w.setCell ⟨be, 0, none⟩ (.int .i64 F)) :=
  ⟨one_setCell h.c, h.grew.setCell hb _⟩

set_option maxRecDepth 100000 in
theorem walk_wrong (w0 : World) (be : Nat) (t : TypeId) (hbe : w0.heap.size ≤ be) {b o : Nat} {p : Pat} (hp : PatAt w0 b o p) :
    ∀ (d F : Int) (w : World), ErrEnd w0 be t F w →
    Calls Tryd.prog 32 #[.pointer (some ⟨b, o, none⟩), .int .i64 d, .func (.func 33) #[] #[.pointer (some ⟨be, 0, none⟩)]] w fun e w' =>
      e = .returned (.bool (errW p == 0)) ∧ ErrEnd w0 be t (errW p) w' := by
  induction hp with
  | leaf b o k tx n m a c c0 c1 c2 c3 c4 hk hn ht hm =>
    intro d F w hw
    have hn : NodeAt w b o (.mk k tx n m []) (.slice a 0 c) := NodeAt.kept hw.grew ⟨c0, c1, c2, c3, c4, hk, hn, ht, hm⟩
    obtain ⟨E, hE⟩ : ∃ E, nodeErr (.mk k tx n m []) = E := ⟨_, rfl⟩
    have hT := wrong_node hn (Or.inl ⟨_, _, rfl, rfl⟩)
    rw [hE] at hT
    have HV := hidd (wrong_visit b o d be E F w t hw.c hT)
    have hW : Hid (ErrEnd w0 be t E (w.setCell ⟨be, 0, none⟩ (.int .i64 E))) := hw.set hbe
    have g5 : (w.setCell ⟨be, 0, none⟩ (.int .i64 E)).cell? ⟨b, o + 4, none⟩ = some (.slice a 0 c) := hW.out.grew.keeps c4
    obtain ⟨w1, hw1⟩ : ∃ w1, w.setCell ⟨be, 0, none⟩ (.int .i64 E) = w1 := ⟨_, rfl⟩
    rw [hw1] at HV hW g5
    clear hw1 c0 c1 c2 c3 c4 hn hT hw
    by_cases g : E = 0
    · have e : errW (.mk k tx n m []) = 0 := by rw [errW, hE, if_pos g]; rfl
      have g' : (E == 0) = true := by simpa using g
      rw [g'] at HV
      have E1 := hidd e
      have G := hidd g
      clear e g g' hE
      go_enter Tryd.func32, Tryd.ntmps32
      go_wp2_with fail
      refine HV.out.mono ?_; rintro e w2 ⟨rfl, rfl⟩
      go_wp2_with fail
      go_loop [18] (fun u => u = .int .i64 0) (fun _ => 0)
      case atStart => rfl
      case round =>
        obtain rfl := hrel
        go_wp2_with fail
        go_ret
        rw [E1.out]
        exact ⟨rfl, by have := hW.out; rw [G.out] at this; exact this⟩
    · have e : errW (.mk k tx n m []) = E := by rw [errW, hE, if_neg g]
      have g' : (E == 0) = false := by simpa using g
      rw [g'] at HV
      have E1 := hidd e
      have G := hidd g'
      clear e g g' hE
      go_enter Tryd.func32, Tryd.ntmps32
      go_wp2_with fail
      refine HV.out.mono ?_; rintro e w2 ⟨rfl, rfl⟩
      go_wp2_with fail
      go_ret
      rw [E1.out]
      exact ⟨ret_bool G.out.symm, hW.out⟩
  | node b o k tx n m l b' o' c c0 c1 c2 c3 c4 hk hn ht hm h0 hc hc' hl ih =>
    intro d F w hw
    have hn : NodeAt w b o (.mk k tx n m l) (.slice (some ⟨b', o', none⟩) l.length c) := NodeAt.kept hw.grew ⟨c0, c1, c2, c3, c4, hk, hn, ht, hm⟩
    obtain ⟨E, hE⟩ : ∃ E, nodeErr (.mk k tx n m l) = E := ⟨_, rfl⟩
    have hT := wrong_node hn (Or.inr ⟨b', o', c, rfl, h0, hc, hc', fun i hi => (hl i hi).kept hw.grew⟩)
    rw [hE] at hT
    have HV := hidd (wrong_visit b o d be E F w t hw.c hT)
    have hW : Hid (ErrEnd w0 be t E (w.setCell ⟨be, 0, none⟩ (.int .i64 E))) := hw.set hbe
    have g5 : (w.setCell ⟨be, 0, none⟩ (.int .i64 E)).cell? ⟨b, o + 4, none⟩ = some (.slice (some ⟨b', o', none⟩) l.length c) := hW.out.grew.keeps c4
    obtain ⟨w1, hw1⟩ : ∃ w1, w.setCell ⟨be, 0, none⟩ (.int .i64 E) = w1 := ⟨_, rfl⟩
    rw [hw1] at HV hW g5
    have HC4 := hidd c4
    have IH := hidd ih
    unfold maxLen at hc'
    clear hw1 ih hl c0 c1 c2 c3 c4 hn hT hw ht hm
    by_cases g : E = 0
    · have e : errW (.mk k tx n m l) = errL l := by rw [errW, hE, if_pos g]
      have g' : (E == 0) = true := by simpa using g
      rw [g'] at HV
      have E1 := hidd e
      have hW2 : Hid (ErrEnd w0 be t 0 w1) := by have := hW.out; rw [g] at this; exact this
      clear e g g' hE hW
      go_enter Tryd.func32, Tryd.ntmps32
      go_wp2_with fail
      refine HV.out.mono ?_; rintro e w2 ⟨rfl, rfl⟩
      go_wp2_with fail
      go_loopw [18] (fun u wr => ∃ i : Nat, i ≤ l.length ∧ u = .int .i64 i ∧ Hid (ErrEnd w0 be t 0 wr) ∧ Hid (errL l = errL (l.drop i))) (fun u _ => l.length - (intOf u).toNat)
      case atStart => exact ⟨0, by omega, rfl, hW2, rfl⟩
      case round =>
        obtain ⟨i, hi, rfl, hR, HS⟩ := hrel
        clear g5
        have g6 := hR.out.grew.keeps HC4.out
        by_cases hlt : i < l.length
        · have hs := errL_step l i hlt
          obtain ⟨e, he⟩ : ∃ e, errW (l.getD i Pat.zero) = e := ⟨_, rfl⟩
          have HK : Hid (∀ d, Calls Tryd.prog 32 #[.pointer (some ⟨b', o' + i * 5, none⟩), .int .i64 d, .func (.func 33) #[] #[.pointer (some ⟨be, 0, none⟩)]] wr fun x w' => x = .returned (.bool (e == 0)) ∧ ErrEnd w0 be t e w') := by
            have := fun d => IH.out i hlt d 0 wr hR.out
            rw [he] at this
            exact this
          rw [he] at hs
          have HSS := hidd (HS.out.trans hs)
          clear hs he
          by_cases e0 : e = 0
          · have e0' : (e == 0) = true := by simpa using e0
            rw [e0'] at HK
            have E0 := hidd e0
            clear e0 e0'
            go_wp2_with fail
            refine (HK.out _).mono ?_; rintro x w2 ⟨rfl, hE⟩
            have hE' := hidd hE
            clear hE
            go_wp2_with fail
            go_roundw
            case rel => exact ⟨i + 1, by omega, by go_num, by have := hE'.out; rw [E0.out] at this; exact this, by rw [Hid, HSS.out, if_pos E0.out]⟩
            case measure => simp [intOf]; omega
          · have e0' : (e == 0) = false := by simpa using e0
            rw [e0'] at HK
            have E0 := hidd e0
            have E0' := hidd e0'
            clear e0 e0'
            go_wp2_with fail
            refine (HK.out _).mono ?_; rintro x w2 ⟨rfl, hE⟩
            have hE' := hidd hE
            clear hE
            go_wp2_with fail
            go_ret
            rw [E1.out, HSS.out, if_neg E0.out]
            exact ⟨ret_bool E0'.out.symm, hE'.out⟩
        · obtain rfl : i = l.length := by omega
          have HE2 := hidd (HS.out.trans (show errL (l.drop l.length) = 0 by rw [List.drop_length]; rfl))
          go_wp2_with fail
          go_ret
          rw [E1.out, HE2.out]
          exact ⟨rfl, hR.out⟩
    · have e : errW (.mk k tx n m l) = E := by rw [errW, hE, if_neg g]
      have g' : (E == 0) = false := by simpa using g
      rw [g'] at HV
      have E1 := hidd e
      have G := hidd g'
      clear e g g' hE
      go_enter Tryd.func32, Tryd.ntmps32
      go_wp2_with fail
      refine HV.out.mono ?_; rintro e w2 ⟨rfl, rfl⟩
      go_wp2_with fail
      go_ret
      rw [E1.out]
      exact ⟨ret_bool G.out.symm, hW.out⟩

end Go.Proofs.YtmkldfjcpmoajabDoor
