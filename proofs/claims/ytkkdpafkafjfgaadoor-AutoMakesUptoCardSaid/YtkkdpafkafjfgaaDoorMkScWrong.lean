/- pats.wrong: at every node. -/
import Derived.Test.YtkkdpafkafjfgaaDoorMkPScNodeA
import Derived.Test.YtkkdpafkafjfgaaDoorMkPStBits
import Derived.Test.YtkkdpafkafjfgaaDoorMkScPat
import Derived.OpenShut
import Derived.Deep.Slices
import Derived.WideShapes
namespace Go.Proofs.YtkkdpafkafjfgaaDoor
open Go.RowKit
set_option linter.unusedVariables false
theorem wrong_node {w : World} {b o : Nat} {p : Pat} {v : Value} (h1 : NodeAt w b o p v) (h2 : KidsAt w v p.kids) : Told w b o (nodeErr p) := by
  have h := h1.seen h2
  unfold nodeErr
  have hm : ∀ lo hi, (p.kids.length < lo → Told w b o 5) → (hi < p.kids.length → Told w b o 5) → (lo ≤ p.kids.length → p.kids.length ≤ hi → Told w b o 0) → Told w b o (manyErr p.kids.length lo hi) := by
    intro lo hi x y z
    unfold manyErr
    split
    · rename_i hh
      rcases hh with hh | hh
      · exact x hh
      · exact y hh
    · exact z (by omega) (by omega)
  split
  · rename_i hk; exact wrong_none h hk
  rename_i hk0
  split
  · rename_i hk
    split
    · rename_i hs; exact wrong_text h (Or.inl hk) hs
    · rename_i hs; exact hm 0 0 (fun x => by omega) (wrong_lit_more h hk (by omega)) (wrong_lit_ok h hk (by omega))
  rename_i hk1
  split
  · rename_i hk
    split
    · rename_i hs; exact wrong_text h (Or.inr hk) hs
    · split
      · rename_i hs; exact wrong_empty h hk hs
      · exact hm 0 0 (fun x => by omega) (wrong_set_more h hk (by omega) (by omega)) (wrong_set_ok h hk (by omega) (by omega))
  rename_i hk2
  split
  · rename_i hk
    split
    · rename_i hs
      rcases hs with hs | hs
      · exact wrong_low h hk hs
      · exact wrong_high h hk hs
    · exact hm 0 0 (fun x => by omega) (wrong_num_more h hk (by omega) (by omega)) (wrong_num_ok h hk (by omega) (by omega))
  rename_i hk3
  split
  · rename_i hk; exact hm 2 4096 (wrong_cat_few h hk) (wrong_cat_more h hk) (wrong_cat_ok h hk)
  rename_i hk4
  split
  · rename_i hk; exact hm 1 1 (wrong_arbno_few h hk) (wrong_arbno_more h hk) (wrong_arbno_ok h hk)
  rename_i hk5
  split
  · rename_i hk
    split
    · rename_i hs; exact wrong_name h (by omega) hs
    · rename_i hs; exact hm 1 1 (wrong_give_few h hk (by simpa using hs)) (wrong_give_more h hk (by simpa using hs)) (wrong_give_ok h hk (by simpa using hs))
  rename_i hk6
  split
  · rename_i hk
    split
    · rename_i hs; exact wrong_name h (by omega) hs
    · rename_i hs; exact hm 0 0 (fun x => by omega) (wrong_call_more h hk (by simpa using hs)) (wrong_call_ok h hk (by simpa using hs))
  rename_i hk7
  exact hm 0 0 (fun x => by omega) (wrong_plain_more h (by omega)) (wrong_plain_ok h (by omega))
end Go.Proofs.YtkkdpafkafjfgaaDoor
namespace Go.Proofs.YtkkdpafkafjfgaaDoor
open Go.RowKit
set_option linter.unusedVariables false
mutual
def errW : Pat → Int
  | .mk k t n m l => if nodeErr (.mk k t n m l) = 0 then errL l else nodeErr (.mk k t n m l)
def errL : List Pat → Int
  | [] => 0
  | p :: l => if errW p = 0 then errL l else errW p
end
def patErr (p : Pat) : Int := if (sizeW p 1 0 0).1 = true then errW p else 4
theorem errL_step (l : List Pat) (k : Nat) (h : k < l.length) : errL (l.drop k) = if errW (l.getD k Pat.zero) = 0 then errL (l.drop (k + 1)) else errW (l.getD k Pat.zero) := by
  rw [List.drop_eq_getElem_cons h]
  rw [show l.getD k Pat.zero = l[k] by rw [List.getD_eq_getElem?_getD, List.getElem?_eq_getElem h]; rfl]
  rw [errL]
theorem wrong_visit (b o : Nat) (d : Int) (be : Nat) (E : Int) (F : Int) (w : World) (t : TypeId) (hc : w.heap[be]? = some (.cells #[.int .i64 F] t (0, 0)))
    (hT : Told w b o E) :
    Calls Tryd.prog 55 #[.pointer (some ⟨b, o, none⟩), .int .i64 d, .pointer (some ⟨be, 0, none⟩)] w fun e w' =>
      e = .returned (.bool (E == 0)) ∧ w' = w.setCell ⟨be, 0, none⟩ (.int .i64 E) := by
  have c1 := cell_of_one hc
  have f1 := free_of_one hc
  have c1' : ∀ u, (w.setCell ⟨be, 0, none⟩ u).cell? ⟨be, 0, none⟩ = some u := fun u => setCell_cell_same rfl c1
  have HT := hidd hT
  clear hc hT
  go_enter Tryd.func55, Tryd.ntmps55
  go_wp2_with fail
  refine HT.out.mono ?_; rintro e w2 ⟨rfl, rfl⟩
  go_wp2_with fail
  go_ret
  exact ⟨rfl, rfl⟩
structure ErrEnd (w0 : World) (be : Nat) (t : TypeId) (E : Int) (w' : World) : Prop where
  c : w'.heap[be]? = some (.cells #[.int .i64 E] t (0, 0))
  grew : Grew w0 w'
theorem ErrEnd.set {w0 w : World} {be : Nat} {t : TypeId} {E F : Int} (hb : w0.heap.size ≤ be) (h : ErrEnd w0 be t E w) : ErrEnd w0 be t F (w.setCell ⟨be, 0, none⟩ (.int .i64 F)) :=
  ⟨one_setCell h.c, h.grew.setCell hb _⟩
set_option maxRecDepth 100000 in
theorem walk_wrong (w0 : World) (be : Nat) (t : TypeId) (hbe : w0.heap.size ≤ be) {b o : Nat} {p : Pat} (hp : PatAt w0 b o p) :
    ∀ (d F : Int) (w : World), ErrEnd w0 be t F w →
    Calls Tryd.prog 54 #[.pointer (some ⟨b, o, none⟩), .int .i64 d, .func (.func 55) #[] #[.pointer (some ⟨be, 0, none⟩)]] w fun e w' =>
      e = .returned (.bool (errW p == 0)) ∧ ErrEnd w0 be t (errW p) w' := by
  induction hp with
  | leaf b o k tx n m a c c0 c1 c2 c3 c4 hk hn ht hm =>
    intro d F w hw
    have hn : NodeAt w b o (.mk k tx n m []) (.slice a 0 c) := NodeAt.kept hw.grew ⟨c0, c1, c2, c3, c4, hk, hn, ht, hm⟩
    obtain ⟨E, hE⟩ : ∃ E, nodeErr (.mk k tx n m []) = E := ⟨_, rfl⟩
    have hT := wrong_node hn (Or.inl ⟨_, _, rfl, rfl⟩)
    rw [hE] at hT
    have HV := hidd (wrong_visit b o d be E F w t hw.c hT)
    have hW : Hid (ErrEnd w0 be t E (w.setCell ⟨be, 0, none⟩ (.int .i64 E))) := hw.set hbe
    have g5 : (w.setCell ⟨be, 0, none⟩ (.int .i64 E)).cell? ⟨b, o + 4, none⟩ = some (.slice a 0 c) := hW.out.grew.keeps c4
    obtain ⟨w1, hw1⟩ : ∃ w1, w.setCell ⟨be, 0, none⟩ (.int .i64 E) = w1 := ⟨_, rfl⟩
    rw [hw1] at HV hW g5
    clear hw1 c0 c1 c2 c3 c4 hn hT hw
    by_cases g : E = 0
    · have e : errW (.mk k tx n m []) = 0 := by rw [errW, hE, if_pos g]; rfl
      have g' : (E == 0) = true := by simpa using g
      rw [g'] at HV
      have E1 := hidd e
      have G := hidd g
      clear e g g' hE
      go_enter Tryd.func54, Tryd.ntmps54
      go_wp2_with fail
      refine HV.out.mono ?_; rintro e w2 ⟨rfl, rfl⟩
      go_wp2_with fail
      go_loop [18] (fun u => u = .int .i64 0) (fun _ => 0)
      case atStart => rfl
      case round =>
        obtain rfl := hrel
        go_wp2_with fail
        go_ret
        rw [E1.out]
        exact ⟨rfl, by have := hW.out; rw [G.out] at this; exact this⟩
    · have e : errW (.mk k tx n m []) = E := by rw [errW, hE, if_neg g]
      have g' : (E == 0) = false := by simpa using g
      rw [g'] at HV
      have E1 := hidd e
      have G := hidd g'
      clear e g g' hE
      go_enter Tryd.func54, Tryd.ntmps54
      go_wp2_with fail
      refine HV.out.mono ?_; rintro e w2 ⟨rfl, rfl⟩
      go_wp2_with fail
      go_ret
      rw [E1.out]
      exact ⟨ret_bool G.out.symm, hW.out⟩
  | node b o k tx n m l b' o' c c0 c1 c2 c3 c4 hk hn ht hm h0 hc hc' hl ih =>
    intro d F w hw
    have hn : NodeAt w b o (.mk k tx n m l) (.slice (some ⟨b', o', none⟩) l.length c) := NodeAt.kept hw.grew ⟨c0, c1, c2, c3, c4, hk, hn, ht, hm⟩
    obtain ⟨E, hE⟩ : ∃ E, nodeErr (.mk k tx n m l) = E := ⟨_, rfl⟩
    have hT := wrong_node hn (Or.inr ⟨b', o', c, rfl, h0, hc, hc', fun i hi => (hl i hi).kept hw.grew⟩)
    rw [hE] at hT
    have HV := hidd (wrong_visit b o d be E F w t hw.c hT)
    have hW : Hid (ErrEnd w0 be t E (w.setCell ⟨be, 0, none⟩ (.int .i64 E))) := hw.set hbe
    have g5 : (w.setCell ⟨be, 0, none⟩ (.int .i64 E)).cell? ⟨b, o + 4, none⟩ = some (.slice (some ⟨b', o', none⟩) l.length c) := hW.out.grew.keeps c4
    obtain ⟨w1, hw1⟩ : ∃ w1, w.setCell ⟨be, 0, none⟩ (.int .i64 E) = w1 := ⟨_, rfl⟩
    rw [hw1] at HV hW g5
    have HC4 := hidd c4
    have IH := hidd ih
    unfold maxLen at hc'
    clear hw1 ih hl c0 c1 c2 c3 c4 hn hT hw ht hm
    by_cases g : E = 0
    · have e : errW (.mk k tx n m l) = errL l := by rw [errW, hE, if_pos g]
      have g' : (E == 0) = true := by simpa using g
      rw [g'] at HV
      have E1 := hidd e
      have hW2 : Hid (ErrEnd w0 be t 0 w1) := by have := hW.out; rw [g] at this; exact this
      clear e g g' hE hW
      go_enter Tryd.func54, Tryd.ntmps54
      go_wp2_with fail
      refine HV.out.mono ?_; rintro e w2 ⟨rfl, rfl⟩
      go_wp2_with fail
      go_loopw [18] (fun u wr => ∃ i : Nat, i ≤ l.length ∧ u = .int .i64 i ∧ Hid (ErrEnd w0 be t 0 wr) ∧ Hid (errL l = errL (l.drop i))) (fun u _ => l.length - (intOf u).toNat)
      case atStart => exact ⟨0, by omega, rfl, hW2, rfl⟩
      case round =>
        obtain ⟨i, hi, rfl, hR, HS⟩ := hrel
        clear g5
        have g6 := hR.out.grew.keeps HC4.out
        by_cases hlt : i < l.length
        · have hs := errL_step l i hlt
          obtain ⟨e, he⟩ : ∃ e, errW (l.getD i Pat.zero) = e := ⟨_, rfl⟩
          have HK : Hid (∀ d, Calls Tryd.prog 54 #[.pointer (some ⟨b', o' + i * 5, none⟩), .int .i64 d, .func (.func 55) #[] #[.pointer (some ⟨be, 0, none⟩)]] wr fun x w' => x = .returned (.bool (e == 0)) ∧ ErrEnd w0 be t e w') := by
            have := fun d => IH.out i hlt d 0 wr hR.out
            rw [he] at this
            exact this
          rw [he] at hs
          have HSS := hidd (HS.out.trans hs)
          clear hs he
          by_cases e0 : e = 0
          · have e0' : (e == 0) = true := by simpa using e0
            rw [e0'] at HK
            have E0 := hidd e0
            clear e0 e0'
            go_wp2_with fail
            refine (HK.out _).mono ?_; rintro x w2 ⟨rfl, hE⟩
            have hE' := hidd hE
            clear hE
            go_wp2_with fail
            go_roundw
            case rel => exact ⟨i + 1, by omega, by go_num, by have := hE'.out; rw [E0.out] at this; exact this, by rw [Hid, HSS.out, if_pos E0.out]⟩
            case measure => simp [intOf]; omega
          · have e0' : (e == 0) = false := by simpa using e0
            rw [e0'] at HK
            have E0 := hidd e0
            have E0' := hidd e0'
            clear e0 e0'
            go_wp2_with fail
            refine (HK.out _).mono ?_; rintro x w2 ⟨rfl, hE⟩
            have hE' := hidd hE
            clear hE
            go_wp2_with fail
            go_ret
            rw [E1.out, HSS.out, if_neg E0.out]
            exact ⟨ret_bool E0'.out.symm, hE'.out⟩
        · obtain rfl : i = l.length := by omega
          have HE2 := hidd (HS.out.trans (show errL (l.drop l.length) = 0 by rw [List.drop_length]; rfl))
          go_wp2_with fail
          go_ret
          rw [E1.out, HE2.out]
          exact ⟨rfl, hR.out⟩
    · have e : errW (.mk k tx n m l) = E := by rw [errW, hE, if_neg g]
      have g' : (E == 0) = false := by simpa using g
      rw [g'] at HV
      have E1 := hidd e
      have G := hidd g'
      clear e g g' hE
      go_enter Tryd.func54, Tryd.ntmps54
      go_wp2_with fail
      refine HV.out.mono ?_; rintro e w2 ⟨rfl, rfl⟩
      go_wp2_with fail
      go_ret
      rw [E1.out]
      exact ⟨ret_bool G.out.symm, hW.out⟩
end Go.Proofs.YtkkdpafkafjfgaaDoor
namespace Go.Proofs.YtkkdpafkafjfgaaDoor
open Go.RowKit
set_option linter.unusedVariables false
theorem err_start (w1 : World) (t : TypeId) : ErrEnd w1 w1.heap.size t 0 (w1.alloc (.cells #[.int .i64 0] t)) :=
  ⟨heap_alloc_new _ _, (Grew.refl _).alloc _⟩
set_option maxRecDepth 100000 in
theorem Wrong_any (kv : Value) (p : Pat) (w : World) (hp : PatV w kv p) :
    Calls Tryd.prog 25 #[.agg (p.cells kv)] w fun e w' => e = .returned (.int .i64 (patErr p)) ∧ Grew w w' := by
  have HB := hidd (hp.box 24)
  have HZ : Hid (∀ w1, Grew w w1 → _) := fun w1 h => Size_any kv p w1 (hp.kept h)
  obtain ⟨r, N, D, hr⟩ : ∃ r N D, sizeW p 1 0 0 = (r, N, D) := ⟨_, _, _, rfl⟩
  rw [hr] at HZ
  unfold Pat.cells at HZ HB ⊢
  cases r with
  | true =>
    have HE : Hid (patErr p = errW p) := by rw [Hid, patErr, hr]; rfl
    clear hr hp
    go_enter Tryd.func25, Tryd.ntmps25
    go_wp2_with fail
    refine (HZ.out _ ((Grew.refl w).alloc _)).mono ?_; rintro e w2 ⟨rfl, G2⟩
    have HB2 := hidd (HB.out.kept G2)
    have HW := fun d => walk_wrong w2 w2.heap.size 31 (Nat.le_refl _) HB2.out d 0 _ (err_start w2 31)
    have HW2 := hidd HW
    have G3 := hidd (((Grew.refl w).alloc _).trans G2)
    clear HW G2
    go_wp2_with fail
    refine (HW2.out _).mono ?_; rintro e w3 ⟨rfl, hE⟩
    have c1 := cell_of_one hE.c
    have G4 := hidd (G3.out.trans hE.grew)
    clear hE
    go_wp2_with fail
    go_ret
    rw [HE.out]
    exact ⟨rfl, G4.out⟩
  | false =>
    have HE : Hid (patErr p = 4) := by rw [Hid, patErr, hr]; rfl
    clear hr hp
    go_enter Tryd.func25, Tryd.ntmps25
    go_wp2_with fail
    refine (HZ.out _ ((Grew.refl w).alloc _)).mono ?_; rintro e w2 ⟨rfl, G2⟩
    have G3 := hidd (((Grew.refl w).alloc _).trans G2)
    clear G2
    go_wp2_with fail
    go_ret
    rw [HE.out]
    exact ⟨rfl, G3.out⟩
end Go.Proofs.YtkkdpafkafjfgaaDoor
namespace Go.Proofs.YtkkdpafkafjfgaaDoor
open Go.RowKit
set_option linter.unusedVariables false
def Rule.zero : Rule := (ByteArray.empty, Pat.zero)
def Rule.cells (r : Rule) (kv : Value) : Array Value := #[.string r.1, .int .i64 r.2.kind, .string r.2.text, .int .i64 r.2.n, .string r.2.name, kv]
end Go.Proofs.YtkkdpafkafjfgaaDoor
namespace Go.Proofs.YtkkdpafkafjfgaaDoor
open Go.RowKit
set_option linter.unusedVariables false
end Go.Proofs.YtkkdpafkafjfgaaDoor
namespace Go.Proofs.YtkkdpafkafjfgaaDoor
open Go.RowKit Go.ChangeShapes
set_option linter.unusedVariables false
theorem plain_addr {w : World} {a : Addr} {v : Value} (h : w.cell? a = some v) : a = ⟨a.block, a.off, none⟩ := by
  obtain ⟨b, o, sp⟩ := a
  cases sp with
  | none => rfl
  | some x =>
    unfold World.cell? at h
    split at h
    · simp at h
    · cases h
theorem plain_add (b o i : Nat) : (⟨b, o, none⟩ : Addr).add i = ⟨b, o + i, none⟩ := by
  unfold Addr.add; split
  · next h0 => subst h0; rfl
  · rfl
theorem cells_pat : Tryd.prog.cellsOf 24 = 5 := by kernel_rfl
theorem cells_int : Tryd.prog.cellsOf 3 = 1 := by kernel_rfl
theorem cells_string : Tryd.prog.cellsOf 9 = 1 := by kernel_rfl
theorem cells_pats : Tryd.prog.cellsOf 22 = 1 := by kernel_rfl
theorem choose_below {α : Type} (z : α) {n : Nat} {Q : Nat → α → Prop} (h : ∀ i, i < n → ∃ x, Q i x) : ∃ l : List α, l.length = n ∧ ∀ i, i < n → Q i (l.getD i z) := by
  induction n with
  | zero => exact ⟨[], rfl, fun i hi => by omega⟩
  | succ n ih =>
    obtain ⟨l, hl, hq⟩ := ih (fun i hi => h i (by omega))
    obtain ⟨x, hx⟩ := h n (by omega)
    refine ⟨l ++ [x], by simp [hl], fun i hi => ?_⟩
    by_cases e : i < n
    · rw [List.getD_eq_getElem?_getD, List.getElem?_append_left (by omega), ← List.getD_eq_getElem?_getD]; exact hq i e
    · obtain rfl : i = n := by omega
      rw [List.getD_eq_getElem?_getD, List.getElem?_append_right (by omega), hl, Nat.sub_self]; exact hx
theorem list_five {α : Type} : ∀ {l : List α}, l.length = 5 → ∃ a b c d e, l = [a, b, c, d, e]
  | [a, b, c, d, e], _ => ⟨a, b, c, d, e, rfl⟩
section
variable {H : Type} {enc : TypeId × Value → H} {w : World} {base : Nat} {sp : Nat → Bool} {hd : Bool}
theorem trod_five {P : Program} {t : TypeId} {f0 f1 f2 f3 f4 : Field} {fuel : Nat} {cs : List Value} {x : DataW H × List MemPlace} (ht : P.underlying t = some (.struct #[f0, f1, f2, f3, f4])) (h : DataW.trod enc P w base sp hd fuel t cs = some x) :
    ∃ y0 y1 y2 y3 y4 n, fuel = n + 1 ∧ cs.length = P.cellsOf t ∧ DataW.trod enc P w base sp hd n f0.type ((cs.drop f0.offset).take (P.cellsOf f0.type)) = some y0 ∧
      DataW.trod enc P w base sp hd n f1.type ((cs.drop f1.offset).take (P.cellsOf f1.type)) = some y1 ∧ DataW.trod enc P w base sp hd n f2.type ((cs.drop f2.offset).take (P.cellsOf f2.type)) = some y2 ∧
      DataW.trod enc P w base sp hd n f3.type ((cs.drop f3.offset).take (P.cellsOf f3.type)) = some y3 ∧ DataW.trod enc P w base sp hd n f4.type ((cs.drop f4.offset).take (P.cellsOf f4.type)) = some y4 := by
  obtain ⟨xs, n, e, _, hl, hlen, hf⟩ := DataW.trod_struct ht h
  obtain ⟨y0, y1, y2, y3, y4, rfl⟩ := list_five hlen
  exact ⟨y0, y1, y2, y3, y4, n, e, hl, by simpa using hf 0 f0 rfl, by simpa using hf 1 f1 rfl, by simpa using hf 2 f2 rfl, by simpa using hf 3 f3 rfl, by simpa using hf 4 f4 rfl⟩
theorem open_pat : ∀ (fuel : Nat) (cs : List Value) (x : DataW H × List MemPlace), DataW.trod enc Tryd.prog w base sp hd fuel 24 cs = some x → ∃ p kv, cs = (p.cells kv).toList ∧ PatV w kv p := by
  intro fuel
  induction fuel using Nat.strongRecOn with
  | _ fuel ih =>
    intro cs x h
    obtain ⟨y0, y1, y2, y3, y4, n, rfl, hl, f0, f1, f2, f3, f4⟩ := trod_five Tryd.underlying24 h
    rw [cells_pat] at hl
    clear h
    obtain ⟨c0, c1, c2, c3, c4, rfl⟩ := list_five hl
    simp only [cells_int, cells_string, cells_pats, List.drop, List.take] at f0 f1 f2 f3 f4
    obtain ⟨k, e0, _, hk⟩ := DataW.trod_int Tryd.underlying3 f0
    obtain ⟨t, e1, _, ht⟩ := DataW.trod_string Tryd.underlying9 f1
    obtain ⟨m, e2, _, hm⟩ := DataW.trod_int Tryd.underlying3 f2
    obtain ⟨nm, e3, _, hnm⟩ := DataW.trod_string Tryd.underlying9 f3
    have hk := bd_i64 hk
    have hm := bd_i64 hm
    simp only [List.cons.injEq, and_true] at e0 e1 e2 e3
    subst e0 e1 e2 e3
    rcases DataW.trod_slice Tryd.underlying22 f4 with ⟨e4, _⟩ | ⟨a, len, cap, elems, rest, n', rfl, e4, _, hb, hlc, hcm, hel, hall, _, _⟩
    · simp only [List.cons.injEq, and_true] at e4
      subst e4
      exact ⟨.mk k t m nm [], .slice none 0 0, rfl, Or.inl ⟨none, 0, rfl, rfl⟩, hk, hm, ht, hnm⟩
    · simp only [List.cons.injEq, and_true] at e4
      subst e4
      have hq : ∀ i, i < len → ∃ p : Pat, ∃ b o, a = ⟨b, o, none⟩ ∧ PatAt w b (o + i * 5) p := by
        intro i hi
        have hx := hall i hi
        rw [List.getElem?_eq_getElem (by omega)] at hx
        obtain ⟨cs', h1, h2⟩ := Option.bind_eq_some_iff.1 hx
        obtain ⟨p, kv, rfl, hv⟩ := ih n' (by omega) cs' _ h2
        rw [cells_pat] at h1
        obtain ⟨_, _, hc⟩ := World.cells?_some h1
        have hp : a = ⟨a.block, a.off, none⟩ := by
          have hx0 := hall 0 (by omega)
          rw [List.getElem?_eq_getElem (show 0 < elems.length by omega), Nat.zero_mul, show a.add 0 = a from rfl] at hx0
          obtain ⟨cs0, g1, g2⟩ := Option.bind_eq_some_iff.1 hx0
          obtain ⟨p0, kv0, rfl, _⟩ := ih n' (by omega) cs0 _ g2
          rw [cells_pat] at g1
          obtain ⟨_, _, gc⟩ := World.cells?_some g1
          exact plain_addr (v := .int .i64 p0.kind) (gc 0 (by omega))
        refine ⟨p, a.block, a.off, hp, ?_⟩
        rw [hp] at hc
        have c0 := hc 0 (by omega)
        have c1 := hc 1 (by omega)
        have c2 := hc 2 (by omega)
        have c3 := hc 3 (by omega)
        have c4 := hc 4 (by omega)
        simp only [plain_add, Nat.add_zero] at c0 c1 c2 c3 c4
        exact .shut ⟨c0, c1, c2, c3, c4, hv.hk, hv.hn, hv.ht, hv.hm⟩ hv.kids
      by_cases h0 : len = 0
      · subst h0
        exact ⟨.mk k t m nm [], .slice (some a) 0 cap, rfl, Or.inl ⟨some a, cap, rfl, rfl⟩, hk, hm, ht, hnm⟩
      · obtain ⟨_, b, o, hab, _⟩ := hq 0 (by omega)
        subst hab
        obtain ⟨l, hll, hlq⟩ := choose_below Pat.zero hq
        subst hll
        refine ⟨.mk k t m nm l, .slice (some ⟨b, o, none⟩) l.length cap, rfl, Or.inr ⟨b, o, cap, rfl, by show 0 < l.length; omega, hlc, hcm, fun i hi => ?_⟩, hk, hm, ht, hnm⟩
        obtain ⟨b', o', e, hp⟩ := hlq i hi
        cases e
        exact hp
theorem pat_of {cs : Array Value} {d : DataW H} {ps : List MemPlace} (h : DataW.Trod enc Tryd.prog w base sp hd 24 (.agg cs) d ps) : ∃ p kv, cs = p.cells kv ∧ PatV w kv p := by
  obtain ⟨fuel, h⟩ := h
  obtain ⟨p, kv, e, hp⟩ := open_pat _ _ _ h
  exact ⟨p, kv, by simpa [Value.cells] using e, hp⟩
set_option maxRecDepth 100000 in
theorem open_patv {base' : Nat} {r : Reach} {v : Value} {d : DataW H} {ps : List MemPlace} (hval : Value.okWide Tryd.prog w r base' 24 v) (h : DataW.Trod enc Tryd.prog w base sp hd 24 v d ps) : ∃ p kv, v = .agg (p.cells kv) ∧ PatV w kv p := by
  obtain ⟨cs, rfl, _⟩ := Go.WideShapes.okWide_struct Tryd.underlying24 hval
  obtain ⟨p, kv, rfl, hp⟩ := pat_of h
  exact ⟨p, kv, rfl, hp⟩
end
theorem laidOut : laidOutB Tryd.prog = true := by kernel_rfl
end Go.Proofs.YtkkdpafkafjfgaaDoor
