/- pats.wrong: at every node. -/
import Derived.Test.YtkkdpafkafjfgaaDoorWwPStArr
import Derived.Test.YtkkdpafkafjfgaaDoorWwPStBits
import Derived.Test.YtkkdpafkafjfgaaDoorWwScPat
import Derived.OpenShut
import Derived.Deep.Slices
import Derived.WideShapes
namespace Go.Proofs.YtkkdpafkafjfgaaDoor
open Go.RowKit
set_option linter.unusedVariables false
theorem wrong_node {w : World} {b o : Nat} {p : Pat} {v : Value} (h1 : NodeAt w b o p v) (h2 : KidsAt w v p.kids) : Told w b o (nodeErr p) := by
  have h := h1.seen h2
  unfold nodeErr
  have hm : ∀ lo hi, (p.kids.length < lo → Told w b o 5) → (hi < p.kids.length → Told w b o 5) → (lo ≤ p.kids.length → p.kids.length ≤ hi → Told w b o 0) → Told w b o (manyErr p.kids.length lo hi) := by
    intro lo hi x y z
    unfold manyErr
    split
    · rename_i hh
      rcases hh with hh | hh
      · exact x hh
      · exact y hh
    · exact z (by omega) (by omega)
  split
  · rename_i hk; exact wrong_none h hk
  rename_i hk0
  split
  · rename_i hk
    split
    · rename_i hs; exact wrong_text h (Or.inl hk) hs
    · rename_i hs; exact hm 0 0 (fun x => by omega) (wrong_lit_more h hk (by omega)) (wrong_lit_ok h hk (by omega))
  rename_i hk1
  split
  · rename_i hk
    split
    · rename_i hs; exact wrong_text h (Or.inr hk) hs
    · split
      · rename_i hs; exact wrong_empty h hk hs
      · exact hm 0 0 (fun x => by omega) (wrong_set_more h hk (by omega) (by omega)) (wrong_set_ok h hk (by omega) (by omega))
  rename_i hk2
  split
  · rename_i hk
    split
    · rename_i hs
      rcases hs with hs | hs
      · exact wrong_low h hk hs
      · exact wrong_high h hk hs
    · exact hm 0 0 (fun x => by omega) (wrong_num_more h hk (by omega) (by omega)) (wrong_num_ok h hk (by omega) (by omega))
  rename_i hk3
  split
  · rename_i hk; exact hm 2 4096 (wrong_cat_few h hk) (wrong_cat_more h hk) (wrong_cat_ok h hk)
  rename_i hk4
  split
  · rename_i hk; exact hm 1 1 (wrong_arbno_few h hk) (wrong_arbno_more h hk) (wrong_arbno_ok h hk)
  rename_i hk5
  split
  · rename_i hk
    split
    · rename_i hs; exact wrong_name h (by omega) hs
    · rename_i hs; exact hm 1 1 (wrong_give_few h hk (by simpa using hs)) (wrong_give_more h hk (by simpa using hs)) (wrong_give_ok h hk (by simpa using hs))
  rename_i hk6
  split
  · rename_i hk
    split
    · rename_i hs; exact wrong_name h (by omega) hs
    · rename_i hs; exact hm 0 0 (fun x => by omega) (wrong_call_more h hk (by simpa using hs)) (wrong_call_ok h hk (by simpa using hs))
  rename_i hk7
  exact hm 0 0 (fun x => by omega) (wrong_plain_more h (by omega)) (wrong_plain_ok h (by omega))
end Go.Proofs.YtkkdpafkafjfgaaDoor
namespace Go.Proofs.YtkkdpafkafjfgaaDoor
open Go.RowKit
set_option linter.unusedVariables false
mutual
def errW : Pat → Int
  | .mk k t n m l => if nodeErr (.mk k t n m l) = 0 then errL l else nodeErr (.mk k t n m l)
def errL : List Pat → Int
  | [] => 0
  | p :: l => if errW p = 0 then errL l else errW p
end
def patErr (p : Pat) : Int := if (sizeW p 1 0 0).1 = true then errW p else 4
theorem errL_step (l : List Pat) (k : Nat) (h : k < l.length) : errL (l.drop k) = if errW (l.getD k Pat.zero) = 0 then errL (l.drop (k + 1)) else errW (l.getD k Pat.zero) := by
  rw [List.drop_eq_getElem_cons h]
  rw [show l.getD k Pat.zero = l[k] by rw [List.getD_eq_getElem?_getD, List.getElem?_eq_getElem h]; rfl]
  rw [errL]
theorem wrong_visit (b o : Nat) (d : Int) (be : Nat) (E : Int) (F : Int) (w : World) (t : TypeId) (hc : w.heap[be]? = some (.cells #[.int .i64 F] t (0, 0)))
    (hT : Told w b o E) :
    Calls Tryd.prog 55 #[.pointer (some ⟨b, o, none⟩), .int .i64 d, .pointer (some ⟨be, 0, none⟩)] w fun e w' =>
      e = .returned (.bool (E == 0)) ∧ w' = w.setCell ⟨be, 0, none⟩ (.int .i64 E) := by
  have c1 := cell_of_one hc
  have f1 := free_of_one hc
  have c1' : ∀ u, (w.setCell ⟨be, 0, none⟩ u).cell? ⟨be, 0, none⟩ = some u := fun u => setCell_cell_same rfl c1
  have HT := hidd hT
  clear hc hT
  go_enter Tryd.func55, Tryd.ntmps55
  go_wp2_with fail
  refine HT.out.mono ?_; rintro e w2 ⟨rfl, rfl⟩
  go_wp2_with fail
  go_ret
  exact ⟨rfl, rfl⟩
structure ErrEnd (w0 : World) (be : Nat) (t : TypeId) (E : Int) (w' : World) : Prop where
  c : w'.heap[be]? = some (.cells #[.int .i64 E] t (0, 0))
  grew : Grew w0 w'
theorem ErrEnd.set {w0 w : World} {be : Nat} {t : TypeId} {E F : Int} (hb : w0.heap.size ≤ be) (h : ErrEnd w0 be t E w) : ErrEnd w0 be t F (w.setCell ⟨be, 0, none⟩ (.int .i64 F)) :=
  ⟨one_setCell h.c, h.grew.setCell hb _⟩
set_option maxRecDepth 100000 in
theorem walk_wrong (w0 : World) (be : Nat) (t : TypeId) (hbe : w0.heap.size ≤ be) {b o : Nat} {p : Pat} (hp : PatAt w0 b o p) :
    ∀ (d F : Int) (w : World), ErrEnd w0 be t F w →
    Calls Tryd.prog 54 #[.pointer (some ⟨b, o, none⟩), .int .i64 d, .func (.func 55) #[] #[.pointer (some ⟨be, 0, none⟩)]] w fun e w' =>
      e = .returned (.bool (errW p == 0)) ∧ ErrEnd w0 be t (errW p) w' := by
  induction hp with
  | leaf b o k tx n m a c c0 c1 c2 c3 c4 hk hn ht hm =>
    intro d F w hw
    have hn : NodeAt w b o (.mk k tx n m []) (.slice a 0 c) := NodeAt.kept hw.grew ⟨c0, c1, c2, c3, c4, hk, hn, ht, hm⟩
    obtain ⟨E, hE⟩ : ∃ E, nodeErr (.mk k tx n m []) = E := ⟨_, rfl⟩
    have hT := wrong_node hn (Or.inl ⟨_, _, rfl, rfl⟩)
    rw [hE] at hT
    have HV := hidd (wrong_visit b o d be E F w t hw.c hT)
    have hW : Hid (ErrEnd w0 be t E (w.setCell ⟨be, 0, none⟩ (.int .i64 E))) := hw.set hbe
    have g5 : (w.setCell ⟨be, 0, none⟩ (.int .i64 E)).cell? ⟨b, o + 4, none⟩ = some (.slice a 0 c) := hW.out.grew.keeps c4
    obtain ⟨w1, hw1⟩ : ∃ w1, w.setCell ⟨be, 0, none⟩ (.int .i64 E) = w1 := ⟨_, rfl⟩
    rw [hw1] at HV hW g5
    clear hw1 c0 c1 c2 c3 c4 hn hT hw
    by_cases g : E = 0
    · have e : errW (.mk k tx n m []) = 0 := by rw [errW, hE, if_pos g]; rfl
      have g' : (E == 0) = true := by simpa using g
      rw [g'] at HV
      have E1 := hidd e
      have G := hidd g
      clear e g g' hE
      go_enter Tryd.func54, Tryd.ntmps54
      go_wp2_with fail
      refine HV.out.mono ?_; rintro e w2 ⟨rfl, rfl⟩
      go_wp2_with fail
      go_loop [18] (fun u => u = .int .i64 0) (fun _ => 0)
      case atStart => rfl
      case round =>
        obtain rfl := hrel
        go_wp2_with fail
        go_ret
        rw [E1.out]
        exact ⟨rfl, by have := hW.out; rw [G.out] at this; exact this⟩
    · have e : errW (.mk k tx n m []) = E := by rw [errW, hE, if_neg g]
      have g' : (E == 0) = false := by simpa using g
      rw [g'] at HV
      have E1 := hidd e
      have G := hidd g'
      clear e g g' hE
      go_enter Tryd.func54, Tryd.ntmps54
      go_wp2_with fail
      refine HV.out.mono ?_; rintro e w2 ⟨rfl, rfl⟩
      go_wp2_with fail
      go_ret
      rw [E1.out]
      exact ⟨ret_bool G.out.symm, hW.out⟩
  | node b o k tx n m l b' o' c c0 c1 c2 c3 c4 hk hn ht hm h0 hc hc' hl ih =>
    intro d F w hw
    have hn : NodeAt w b o (.mk k tx n m l) (.slice (some ⟨b', o', none⟩) l.length c) := NodeAt.kept hw.grew ⟨c0, c1, c2, c3, c4, hk, hn, ht, hm⟩
    obtain ⟨E, hE⟩ : ∃ E, nodeErr (.mk k tx n m l) = E := ⟨_, rfl⟩
    have hT := wrong_node hn (Or.inr ⟨b', o', c, rfl, h0, hc, hc', fun i hi => (hl i hi).kept hw.grew⟩)
    rw [hE] at hT
    have HV := hidd (wrong_visit b o d be E F w t hw.c hT)
    have hW : Hid (ErrEnd w0 be t E (w.setCell ⟨be, 0, none⟩ (.int .i64 E))) := hw.set hbe
    have g5 : (w.setCell ⟨be, 0, none⟩ (.int .i64 E)).cell? ⟨b, o + 4, none⟩ = some (.slice (some ⟨b', o', none⟩) l.length c) := hW.out.grew.keeps c4
    obtain ⟨w1, hw1⟩ : ∃ w1, w.setCell ⟨be, 0, none⟩ (.int .i64 E) = w1 := ⟨_, rfl⟩
    rw [hw1] at HV hW g5
    have HC4 := hidd c4
    have IH := hidd ih
    unfold maxLen at hc'
    clear hw1 ih hl c0 c1 c2 c3 c4 hn hT hw ht hm
    by_cases g : E = 0
    · have e : errW (.mk k tx n m l) = errL l := by rw [errW, hE, if_pos g]
      have g' : (E == 0) = true := by simpa using g
      rw [g'] at HV
      have E1 := hidd e
      have hW2 : Hid (ErrEnd w0 be t 0 w1) := by have := hW.out; rw [g] at this; exact this
      clear e g g' hE hW
      go_enter Tryd.func54, Tryd.ntmps54
      go_wp2_with fail
      refine HV.out.mono ?_; rintro e w2 ⟨rfl, rfl⟩
      go_wp2_with fail
      go_loopw [18] (fun u wr => ∃ i : Nat, i ≤ l.length ∧ u = .int .i64 i ∧ Hid (ErrEnd w0 be t 0 wr) ∧ Hid (errL l = errL (l.drop i))) (fun u _ => l.length - (intOf u).toNat)
      case atStart => exact ⟨0, by omega, rfl, hW2, rfl⟩
      case round =>
        obtain ⟨i, hi, rfl, hR, HS⟩ := hrel
        clear g5
        have g6 := hR.out.grew.keeps HC4.out
        by_cases hlt : i < l.length
        · have hs := errL_step l i hlt
          obtain ⟨e, he⟩ : ∃ e, errW (l.getD i Pat.zero) = e := ⟨_, rfl⟩
          have HK : Hid (∀ d, Calls Tryd.prog 54 #[.pointer (some ⟨b', o' + i * 5, none⟩), .int .i64 d, .func (.func 55) #[] #[.pointer (some ⟨be, 0, none⟩)]] wr fun x w' => x = .returned (.bool (e == 0)) ∧ ErrEnd w0 be t e w') := by
            have := fun d => IH.out i hlt d 0 wr hR.out
            rw [he] at this
            exact this
          rw [he] at hs
          have HSS := hidd (HS.out.trans hs)
          clear hs he
          by_cases e0 : e = 0
          · have e0' : (e == 0) = true := by simpa using e0
            rw [e0'] at HK
            have E0 := hidd e0
            clear e0 e0'
            go_wp2_with fail
            refine (HK.out _).mono ?_; rintro x w2 ⟨rfl, hE⟩
            have hE' := hidd hE
            clear hE
            go_wp2_with fail
            go_roundw
            case rel => exact ⟨i + 1, by omega, by go_num, by have := hE'.out; rw [E0.out] at this; exact this, by rw [Hid, HSS.out, if_pos E0.out]⟩
            case measure => simp [intOf]; omega
          · have e0' : (e == 0) = false := by simpa using e0
            rw [e0'] at HK
            have E0 := hidd e0
            have E0' := hidd e0'
            clear e0 e0'
            go_wp2_with fail
            refine (HK.out _).mono ?_; rintro x w2 ⟨rfl, hE⟩
            have hE' := hidd hE
            clear hE
            go_wp2_with fail
            go_ret
            rw [E1.out, HSS.out, if_neg E0.out]
            exact ⟨ret_bool E0'.out.symm, hE'.out⟩
        · obtain rfl : i = l.length := by omega
          have HE2 := hidd (HS.out.trans (show errL (l.drop l.length) = 0 by rw [List.drop_length]; rfl))
          go_wp2_with fail
          go_ret
          rw [E1.out, HE2.out]
          exact ⟨rfl, hR.out⟩
    · have e : errW (.mk k tx n m l) = E := by rw [errW, hE, if_neg g]
      have g' : (E == 0) = false := by simpa using g
      rw [g'] at HV
      have E1 := hidd e
      have G := hidd g'
      clear e g g' hE
      go_enter Tryd.func54, Tryd.ntmps54
      go_wp2_with fail
      refine HV.out.mono ?_; rintro e w2 ⟨rfl, rfl⟩
      go_wp2_with fail
      go_ret
      rw [E1.out]
      exact ⟨ret_bool G.out.symm, hW.out⟩
end Go.Proofs.YtkkdpafkafjfgaaDoor
namespace Go.Proofs.YtkkdpafkafjfgaaDoor
open Go.RowKit
set_option linter.unusedVariables false
theorem err_start (w1 : World) (t : TypeId) : ErrEnd w1 w1.heap.size t 0 (w1.alloc (.cells #[.int .i64 0] t)) :=
  ⟨heap_alloc_new _ _, (Grew.refl _).alloc _⟩
set_option maxRecDepth 100000 in
theorem Wrong_any (kv : Value) (p : Pat) (w : World) (hp : PatV w kv p) :
    Calls Tryd.prog 25 #[.agg (p.cells kv)] w fun e w' => e = .returned (.int .i64 (patErr p)) ∧ Grew w w' := by
  have HB := hidd (hp.box 24)
  have HZ : Hid (∀ w1, Grew w w1 → _) := fun w1 h => Size_any kv p w1 (hp.kept h)
  obtain ⟨r, N, D, hr⟩ : ∃ r N D, sizeW p 1 0 0 = (r, N, D) := ⟨_, _, _, rfl⟩
  rw [hr] at HZ
  unfold Pat.cells at HZ HB ⊢
  cases r with
  | true =>
    have HE : Hid (patErr p = errW p) := by rw [Hid, patErr, hr]; rfl
    clear hr hp
    go_enter Tryd.func25, Tryd.ntmps25
    go_wp2_with fail
    refine (HZ.out _ ((Grew.refl w).alloc _)).mono ?_; rintro e w2 ⟨rfl, G2⟩
    have HB2 := hidd (HB.out.kept G2)
    have HW := fun d => walk_wrong w2 w2.heap.size 31 (Nat.le_refl _) HB2.out d 0 _ (err_start w2 31)
    have HW2 := hidd HW
    have G3 := hidd (((Grew.refl w).alloc _).trans G2)
    clear HW G2
    go_wp2_with fail
    refine (HW2.out _).mono ?_; rintro e w3 ⟨rfl, hE⟩
    have c1 := cell_of_one hE.c
    have G4 := hidd (G3.out.trans hE.grew)
    clear hE
    go_wp2_with fail
    go_ret
    rw [HE.out]
    exact ⟨rfl, G4.out⟩
  | false =>
    have HE : Hid (patErr p = 4) := by rw [Hid, patErr, hr]; rfl
    clear hr hp
    go_enter Tryd.func25, Tryd.ntmps25
    go_wp2_with fail
    refine (HZ.out _ ((Grew.refl w).alloc _)).mono ?_; rintro e w2 ⟨rfl, G2⟩
    have G3 := hidd (((Grew.refl w).alloc _).trans G2)
    clear G2
    go_wp2_with fail
    go_ret
    rw [HE.out]
    exact ⟨rfl, G3.out⟩
end Go.Proofs.YtkkdpafkafjfgaaDoor
namespace Go.Proofs.YtkkdpafkafjfgaaDoor
open Go.RowKit
set_option linter.unusedVariables false
def Rule.zero : Rule := (ByteArray.empty, Pat.zero)
def RulesAt (w : World) (v : Value) (l : List Rule) : Prop :=
  (∃ a c, v = .slice a 0 c ∧ l = []) ∨ ∃ b o c : Nat, v = .slice (some ⟨b, o, none⟩) l.length c ∧ 0 < l.length ∧ l.length ≤ c ∧ c ≤ maxLen ∧
    ∀ i, i < l.length → w.cell? ⟨b, o + i * 6, none⟩ = some (.string (l.getD i Rule.zero).1) ∧ (l.getD i Rule.zero).1.size ≤ maxLen ∧ PatAt w b (o + i * 6 + 1) (l.getD i Rule.zero).2
theorem RulesAt.kept {w w' : World} (g : Grew w w') {v : Value} {l : List Rule} (h : RulesAt w v l) : RulesAt w' v l := by
  rcases h with h | ⟨b, o, c, h1, h2, h3, h4, h5⟩
  · exact Or.inl h
  · exact Or.inr ⟨b, o, c, h1, h2, h3, h4, fun i hi => ⟨g.keeps (h5 i hi).1, (h5 i hi).2.1, (h5 i hi).2.2.kept g⟩⟩
theorem RulesAt.len {w : World} {v : Value} {l : List Rule} (h : RulesAt w v l) : ∃ a c, v = .slice a l.length c ∧ l.length ≤ 9223372036854775807 := by
  rcases h with ⟨a, c, h, e⟩ | ⟨b, o, c, h, h0, h1, h2, _⟩
  · exact ⟨a, c, by rw [e]; exact h, by rw [e]; simp⟩
  · exact ⟨_, c, h, by unfold maxLen at h2; omega⟩
def Rule.cells (r : Rule) (kv : Value) : Array Value := #[.string r.1, .int .i64 r.2.kind, .string r.2.text, .int .i64 r.2.n, .string r.2.name, kv]
structure RuleAt (w : World) (b o : Nat) (r : Rule) (kv : Value) : Prop where
  c : w.cell? ⟨b, o, none⟩ = some (.string r.1)
  hs : r.1.size ≤ maxLen
  node : NodeAt w b (o + 1) r.2 kv
  pat : PatV w kv r.2
def optInt : Option Nat → Int
  | some i => i
  | none => -1
theorem findIdx_hit {α : Type} (z : α) (t : α → Bool) : ∀ (l : List α) (k : Nat), k < l.length → t (l.getD k z) = true → (∀ j, j < k → t (l.getD j z) = false) → l.findIdx? t = some k
  | [], k, h, _, _ => by simp at h
  | x :: l, 0, _, h, _ => by
    rw [List.findIdx?_cons, if_pos (by simpa using h)]
  | x :: l, k + 1, h, ht, hn => by
    have h0 : t x = false := by simpa using hn 0 (by omega)
    rw [List.findIdx?_cons, if_neg (by rw [h0]; simp), findIdx_hit z t l k (by simpa using h) (by simpa using ht) (fun j hj => by simpa using hn (j + 1) (by omega))]
    rfl
theorem findIdx_no {α : Type} (z : α) (t : α → Bool) : ∀ (l : List α), (∀ j, j < l.length → t (l.getD j z) = false) → l.findIdx? t = none
  | [], _ => rfl
  | x :: l, hn => by
    have h0 : t x = false := by simpa using hn 0 (by simp)
    rw [List.findIdx?_cons, if_neg (by rw [h0]; simp), findIdx_no z t l (fun j hj => by simpa using hn (j + 1) (by simpa using hj))]
    rfl
theorem rule_open {w : World} {b o : Nat} {r : Rule} (h : w.cell? ⟨b, o, none⟩ = some (.string r.1) ∧ r.1.size ≤ maxLen ∧ PatAt w b (o + 1) r.2) : ∃ kv, RuleAt w b o r kv := by
  obtain ⟨kv, h1, h2⟩ := h.2.2.value
  exact ⟨kv, h.1, h.2.1, h1, h2⟩
set_option maxRecDepth 100000 in
theorem IndexFunc_any (f : FuncId) (x : Value) (hfo : f = 114 ∨ f = 120) (t : Rule → Bool) (l : List Rule) (b o c : Nat) (w : World) (hl : 0 < l.length) (hc : l.length ≤ c) (hc' : c ≤ maxLen)
    (hr : ∀ i, i < l.length → w.cell? ⟨b, o + i * 6, none⟩ = some (.string (l.getD i Rule.zero).1) ∧ (l.getD i Rule.zero).1.size ≤ maxLen ∧ PatAt w b (o + i * 6 + 1) (l.getD i Rule.zero).2)
    (hf : ∀ i, i < l.length → ∀ kv w1, Grew w w1 → PatV w1 kv (l.getD i Rule.zero).2 → Calls Tryd.prog f #[.agg ((l.getD i Rule.zero).cells kv), x] w1 fun e w' => e = .returned (.bool (t (l.getD i Rule.zero))) ∧ Grew w1 w') :
    Calls Tryd.prog 119 #[.slice (some ⟨b, o, none⟩) l.length c, .func (.func f) #[] #[x]] w fun e w' =>
      e = .returned (.int .i64 (optInt (l.findIdx? t))) ∧ Grew w w' := by
  unfold maxLen at hc'
  have HR := hidd hr
  have HF := hidd hf
  clear hr hf
  rcases hfo with rfl | rfl
  all_goals
    go_enter Tryd.func119, Tryd.ntmps119
    go_wp2_with fail
    go_loopw [5, 8] (fun _ u wr => ∃ k : Nat, k ≤ l.length ∧ u = .int .i64 k ∧ Hid (∀ j, j < k → t (l.getD j Rule.zero) = false) ∧ Hid (Grew w wr)) (fun _ u _ => l.length - (intOf u).toNat)
    case atStart => exact ⟨0, by omega, rfl, fun j hj => absurd hj (by omega), Grew.refl _⟩
    case round =>
      obtain ⟨k, hk, rfl, HN, HG⟩ := hrel
      by_cases hlt : k < l.length
      · obtain ⟨kv, h⟩ := rule_open (r := l.getD k Rule.zero) ⟨HG.out.keeps (HR.out k hlt).1, (HR.out k hlt).2.1, (HR.out k hlt).2.2.kept HG.out⟩
        have hF := HF.out k hlt kv wr HG.out h.pat
        have HT : Hid (t (l.getD k Rule.zero) = true → l.findIdx? t = some k) := fun e => findIdx_hit Rule.zero t l k hlt e HN.out
        have HT2 : Hid (t (l.getD k Rule.zero) = false → ∀ j, j < k + 1 → t (l.getD j Rule.zero) = false) := fun e j hj => by
          by_cases e2 : j = k
          · rw [e2]; exact e
          · exact HN.out j (by omega)
        obtain ⟨r, hr⟩ : ∃ r, l.getD k Rule.zero = r := ⟨_, rfl⟩
        rw [hr] at h hF HT HT2
        unfold Rule.cells at hF
        obtain ⟨c0, hs, ⟨c1, c2, c3, c4, c5, _, _, _, _⟩, _⟩ := h
        have HFF := hidd hF
        clear hF hr HF
        cases ht : t r with
        | true =>
          rw [ht] at HFF HT
          clear ht
          go_wp2_with fail
          refine HFF.out.mono ?_; rintro e w2 ⟨rfl, G2⟩
          have G3 := hidd (HG.out.trans G2)
          clear G2
          go_wp2_with fail
          go_ret
          rw [HT.out (by first | rfl | trivial)]
          exact ⟨rfl, G3.out⟩
        | false =>
          rw [ht] at HFF HT2
          clear ht
          go_wp2_with fail
          refine HFF.out.mono ?_; rintro e w2 ⟨rfl, G2⟩
          have G3 := hidd (HG.out.trans G2)
          clear G2
          go_wp2_with fail
          go_roundw
          case rel => exact ⟨k + 1, by omega, by go_num, HT2.out (by first | rfl | trivial), G3⟩
          case measure => simp [intOf]; omega
      · obtain rfl : k = l.length := by omega
        have HE := hidd (findIdx_no Rule.zero t l HN.out)
        go_wp2_with fail
        go_ret
        rw [HE.out]
        exact ⟨rfl, HG.out⟩
theorem IndexFunc_none (F : Value) (a : Option Addr) (c : Nat) (w : World) :
    Calls Tryd.prog 119 #[.slice a 0 c, F] w fun e w' => e = .returned (.int .i64 (-1)) ∧ w = w' := by
  go_enter Tryd.func119, Tryd.ntmps119
  go_wp2_with fail
  go_loop [5, 8] (fun _ u => u = .int .i64 0) (fun _ _ => 0)
  case atStart => rfl
  case round =>
    obtain rfl := hrel
    go_wp2_with fail
    go_ret
    exact ⟨rfl, rfl⟩
theorem IndexFunc_rules (f : FuncId) (x : Value) (hfo : f = 114 ∨ f = 120) (t : Rule → Bool) (v : Value) (l : List Rule) (w : World) (hv : RulesAt w v l)
    (hf : ∀ r ∈ l, ∀ kv w1, Grew w w1 → PatV w1 kv r.2 → Calls Tryd.prog f #[.agg (r.cells kv), x] w1 fun e w' => e = .returned (.bool (t r)) ∧ Grew w1 w') :
    Calls Tryd.prog 119 #[v, .func (.func f) #[] #[x]] w fun e w' =>
      e = .returned (.int .i64 (optInt (l.findIdx? t))) ∧ Grew w w' := by
  rcases hv with ⟨a, c, rfl, rfl⟩ | ⟨b, o, c, rfl, h0, h1, h2, h3⟩
  · exact (IndexFunc_none _ a c w).mono fun e w' ⟨h, k⟩ => ⟨h, k ▸ Grew.refl _⟩
  · refine IndexFunc_any f x hfo t l b o c w h0 h1 h2 h3 (fun i hi => hf _ ?_)
    rw [List.getD_eq_getElem?_getD, List.getElem?_eq_getElem hi]; exact List.getElem_mem hi
theorem ContainsFunc_rules (f : FuncId) (x : Value) (hfo : f = 114 ∨ f = 120) (t : Rule → Bool) (v : Value) (l : List Rule) (w : World) (hv : RulesAt w v l) (hl : l.length ≤ 1000)
    (hf : ∀ r ∈ l, ∀ kv w1, Grew w w1 → PatV w1 kv r.2 → Calls Tryd.prog f #[.agg (r.cells kv), x] w1 fun e w' => e = .returned (.bool (t r)) ∧ Grew w1 w') :
    Calls Tryd.prog 113 #[v, .func (.func f) #[] #[x]] w fun e w' => e = .returned (.bool (l.any t)) ∧ Grew w w' := by
  have HC := hidd (IndexFunc_rules f x hfo t v l w hv hf)
  have HA : Hid (l.any t = (l.findIdx? t).isSome) := by rw [Hid, List.findIdx?_isSome]
  clear hv hf
  go_enter Tryd.func113, Tryd.ntmps113
  go_wp2_with fail
  cases h : l.findIdx? t with
  | some i =>
    rw [h] at HA HC
    clear h
    refine HC.out.mono ?_; rintro e w2 ⟨rfl, G2⟩
    have e0 : decide ((0 : Int) ≤ (i : Int)) = true := decide_eq_true (by omega)
    have G3 := hidd G2
    clear G2
    go_wp2_with fail
    go_ret
    rw [HA.out]
    exact ⟨rfl, G3.out⟩
  | none =>
    rw [h] at HA HC
    clear h
    refine HC.out.mono ?_; rintro e w2 ⟨rfl, G2⟩
    have G3 := hidd G2
    clear G2
    go_wp2_with fail
    go_ret
    rw [HA.out]
    exact ⟨rfl, G3.out⟩
theorem same_name (r q : Rule) (kv : Value) (a : Nat) (w : World) (hc : w.cell? ⟨a, 0, none⟩ = some (.string q.1)) :
    Calls Tryd.prog 114 #[.agg (r.cells kv), .pointer (some ⟨a, 0, none⟩)] w fun e w' => e = .returned (.bool (sameText r.1 q.1)) ∧ Grew w w' := by
  have hlt := lt_of_cell hc
  unfold Rule.cells
  have HE : Hid (sameText r.1 q.1 = (r.1.toList == q.1.toList)) := by rw [Hid, Lib.toList_data, Lib.toList_data]; rfl
  have c2 : ∀ o, (w.alloc o).cell? ⟨a, 0, none⟩ = some (.string q.1) := fun o => ((Grew.refl w).alloc o).keeps hc
  go_enter Tryd.func114, Tryd.ntmps114
  go_wp2_with fail
  go_ret
  rw [HE.out]
  exact ⟨rfl, (Grew.refl _).alloc _⟩
end Go.Proofs.YtkkdpafkafjfgaaDoor
namespace Go.Proofs.YtkkdpafkafjfgaaDoor
open Go.RowKit
set_option linter.unusedVariables false
def rulesL : List Rule → List Rule → Int
  | pre, [] => 0
  | pre, r :: l => if named r.1 = false ∨ (pre.any fun o => sameText o.1 r.1) = true then 7 else if patErr r.2 = 0 then rulesL (pre ++ [r]) l else patErr r.2
def rulesErr (l : List Rule) : Int := if 64 < l.length then 5 else rulesL [] l
theorem rulesL_step (l : List Rule) (k : Nat) (h : k < l.length) : rulesL (l.take k) (l.drop k) =
    if named (l.getD k Rule.zero).1 = false ∨ ((l.take k).any fun o => sameText o.1 (l.getD k Rule.zero).1) = true then 7 else if patErr (l.getD k Rule.zero).2 = 0 then rulesL (l.take (k + 1)) (l.drop (k + 1)) else patErr (l.getD k Rule.zero).2 := by
  have e : l.getD k Rule.zero = l[k] := by rw [List.getD_eq_getElem?_getD, List.getElem?_eq_getElem h]; rfl
  rw [List.drop_eq_getElem_cons h, rulesL, e, List.take_add_one, List.getElem?_eq_getElem h]
  rfl
theorem RulesAt.take {w : World} {b o c : Nat} {l : List Rule} (k : Nat) (hk : k ≤ l.length) (hc : l.length ≤ c) (hc' : c ≤ maxLen)
    (h : ∀ i, i < l.length → w.cell? ⟨b, o + i * 6, none⟩ = some (.string (l.getD i Rule.zero).1) ∧ (l.getD i Rule.zero).1.size ≤ maxLen ∧ PatAt w b (o + i * 6 + 1) (l.getD i Rule.zero).2) :
    RulesAt w (.slice (some ⟨b, o, none⟩) k c) (l.take k) := by
  have hl : (l.take k).length = k := by rw [List.length_take]; omega
  rcases Nat.eq_zero_or_pos k with h0 | h0
  · subst h0; exact Or.inl ⟨_, _, rfl, rfl⟩
  · refine Or.inr ⟨b, o, c, by rw [hl], by omega, by omega, hc', fun i hi => ?_⟩
    have e : (l.take k).getD i Rule.zero = l.getD i Rule.zero := by
      rw [List.getD_eq_getElem?_getD, List.getD_eq_getElem?_getD, List.getElem?_take, if_pos (by omega)]
    rw [e]; exact h i (by omega)
set_option maxRecDepth 100000 in
set_option maxHeartbeats 1000000 in
theorem Rules_some (l : List Rule) (b o c : Nat) (w : World) (h0 : 0 < l.length) (hl : l.length ≤ 64) (hc : l.length ≤ c) (hc' : c ≤ maxLen)
    (hr : ∀ i, i < l.length → w.cell? ⟨b, o + i * 6, none⟩ = some (.string (l.getD i Rule.zero).1) ∧ (l.getD i Rule.zero).1.size ≤ maxLen ∧ PatAt w b (o + i * 6 + 1) (l.getD i Rule.zero).2) :
    Calls Tryd.prog 91 #[.slice (some ⟨b, o, none⟩) l.length c] w fun e w' => e = .returned (.int .i64 (rulesL [] l)) ∧ Grew w w' := by
  have HR := hidd hr
  have HC := hidd hc'
  unfold maxLen at hc'
  clear hr
  have e0 : decide ((64 : Int) < (l.length : Int)) = false := decide_eq_false (by omega)
  go_enter Tryd.func91, Tryd.ntmps91
  go_wp2_with fail
  clear e0
  go_loopw [3, 4, 5, 11] (fun _ _ _ u wr => ∃ k : Nat, k ≤ l.length ∧ u = .int .i64 k ∧ Hid (rulesL [] l = rulesL (l.take k) (l.drop k)) ∧ Hid (Grew w wr)) (fun _ _ _ u _ => l.length - (intOf u).toNat)
  case atStart => exact ⟨0, by omega, rfl, rfl, Grew.refl _⟩
  case round =>
    obtain ⟨k, hk, rfl, HS, HG⟩ := hrel
    by_cases hlt : k < l.length
    · obtain ⟨kv, h⟩ := rule_open (r := l.getD k Rule.zero) ⟨HG.out.keeps (HR.out k hlt).1, (HR.out k hlt).2.1, (HR.out k hlt).2.2.kept HG.out⟩
      have hs := rulesL_step l k hlt
      obtain ⟨r, hr⟩ : ∃ r, l.getD k Rule.zero = r := ⟨_, rfl⟩
      rw [hr] at h hs
      have HSS := hidd (HS.out.trans hs)
      obtain ⟨ka, kc, rfl, hkl⟩ := h.pat.kids.len
      have HV : Hid (∀ w1, Grew wr w1 → Calls Tryd.prog 25 #[.agg (r.2.cells (.slice ka r.2.kids.length kc))] w1 fun e w' => e = .returned (.int .i64 (patErr r.2)) ∧ Grew w1 w') := fun w1 g => Wrong_any _ r.2 w1 (h.pat.kept g)
      have HF : Hid (∀ w1, Grew wr w1 → ∀ x, w1.cell? ⟨x, 0, none⟩ = some (.string r.1) → Calls Tryd.prog 113 #[.slice (some ⟨b, o, none⟩) k c, .func (.func 114) #[] #[.pointer (some ⟨x, 0, none⟩)]] w1 fun e w' => e = .returned (.bool ((l.take k).any fun o => sameText o.1 r.1)) ∧ Grew w1 w') :=
        fun w1 g x hx => ContainsFunc_rules 114 (.pointer (some ⟨x, 0, none⟩)) (Or.inl rfl) (fun o => sameText o.1 r.1) _ (l.take k) w1 (RulesAt.take k hk hc HC.out fun i hi => ⟨(HG.out.trans g).keeps (HR.out i hi).1, (HR.out i hi).2.1, (HR.out i hi).2.2.kept (HG.out.trans g)⟩) (by rw [List.length_take]; omega)
          (fun q _ kv w2 g2 _ => same_name q r kv x w2 (g2.keeps hx))
      have HN : Hid (∀ w1, Calls Tryd.prog 97 #[.string r.1] w1 fun e w' => e = .returned (.bool (named r.1)) ∧ w1 = w') := fun w1 => Named_any r.1 w1 h.hs
      obtain ⟨c0, hsz, ⟨c1, c2, c3, c4, c5, _, _, _, _⟩, _⟩ := h
      unfold Pat.cells at HV
      clear hr hs
      have hcut : (((some ⟨b, o, none⟩ : Option Addr))) = some ⟨b, o, none⟩ := rfl
      cases hn : named r.1 with
      | false =>
        rw [hn] at HN HSS
        clear hn hcut
        go_wp2_with fail
        refine (HN.out _).mono ?_; rintro e w2 ⟨rfl, rfl⟩
        have G3 := hidd (HG.out.alloc (.cells #[.string r.1, .int .i64 r.2.kind, .string r.2.text, .int .i64 r.2.n, .string r.2.name, .slice ka r.2.kids.length kc] 219))
        go_wp2_with fail
        go_ret
        rw [HSS.out, if_pos (by first | exact Or.inl rfl | exact Or.inl trivial | simp)]
        exact ⟨rfl, G3.out⟩
      | true =>
        rw [hn] at HN HSS
        clear hn hcut
        go_wp2_with fail
        refine (HN.out _).mono ?_; rintro e w2 ⟨rfl, rfl⟩
        have G2 := hidd ((Grew.refl wr).alloc (.cells #[.string r.1, .int .i64 r.2.kind, .string r.2.text, .int .i64 r.2.n, .string r.2.name, .slice ka r.2.kids.length kc] 219))
        have cb : (wr.alloc (.cells #[.string r.1, .int .i64 r.2.kind, .string r.2.text, .int .i64 r.2.n, .string r.2.name, .slice ka r.2.kids.length kc] 219)).cell? ⟨wr.heap.size, 0, none⟩ = some (.string r.1) := by rw [World.cell?_alloc_mark]; rfl
        go_wp2_with fail
        refine (HF.out _ G2.out _ cb).mono ?_; rintro e w3 ⟨rfl, G3⟩
        have d1 : w3.cell? ⟨wr.heap.size, 1, none⟩ = some (.int .i64 r.2.kind) := G3.keeps (by rw [World.cell?_alloc_mark]; rfl)
        have d2 : w3.cell? ⟨wr.heap.size, 2, none⟩ = some (.string r.2.text) := G3.keeps (by rw [World.cell?_alloc_mark]; rfl)
        have d3 : w3.cell? ⟨wr.heap.size, 3, none⟩ = some (.int .i64 r.2.n) := G3.keeps (by rw [World.cell?_alloc_mark]; rfl)
        have d4 : w3.cell? ⟨wr.heap.size, 4, none⟩ = some (.string r.2.name) := G3.keeps (by rw [World.cell?_alloc_mark]; rfl)
        have d5 : w3.cell? ⟨wr.heap.size, 5, none⟩ = some (.slice ka r.2.kids.length kc) := G3.keeps (by rw [World.cell?_alloc_mark]; rfl)
        have G4 := hidd (G2.out.trans G3)
        clear G2 G3 cb
        cases ha : (l.take k).any fun o => sameText o.1 r.1 with
        | true =>
          rw [ha] at HSS
          clear ha HF
          go_wp2_with fail
          go_ret
          rw [HSS.out, if_pos (by simp)]
          exact ⟨rfl, HG.out.trans G4.out⟩
        | false =>
          rw [ha] at HSS
          clear ha HF
          go_wp2_with fail
          refine (HV.out _ G4.out).mono ?_; rintro e w4 ⟨rfl, G5⟩
          have G6 := hidd (HG.out.trans (G4.out.trans G5))
          clear d1 d2 d3 d4 d5 G4 G5 HV
          have HSS2 : Hid (rulesL [] l = if patErr r.2 = 0 then rulesL (l.take (k + 1)) (l.drop (k + 1)) else patErr r.2) := by
            rw [Hid, HSS.out, if_neg (by simp)]
          by_cases he : patErr r.2 = 0
          · have he' : (patErr r.2 != 0) = false := by rw [he]; rfl
            have HE := hidd he
            clear he
            go_wp2_with fail
            go_roundw
            case rel => exact ⟨k + 1, by omega, by go_num, by rw [Hid, HSS2.out, if_pos HE.out], G6⟩
            case measure => simp [intOf]; omega
          · have he' : (patErr r.2 != 0) = true := by simpa using he
            have HE := hidd he
            clear he
            go_wp2_with fail
            go_ret
            rw [HSS2.out, if_neg HE.out]
            exact ⟨rfl, G6.out⟩
    · obtain rfl : k = l.length := by omega
      have HE := hidd (HS.out.trans (show rulesL (l.take l.length) (l.drop l.length) = 0 by rw [List.drop_length]; rfl))
      go_wp2_with fail
      go_ret
      rw [HE.out]
      exact ⟨rfl, HG.out⟩
set_option maxRecDepth 100000 in
theorem Rules_any (v : Value) (l : List Rule) (w : World) (h : RulesAt w v l) :
    Calls Tryd.prog 91 #[v] w fun e w' => e = .returned (.int .i64 (rulesErr l)) ∧ Grew w w' := by
  by_cases h64 : 64 < l.length
  · obtain ⟨a, c, rfl, hl⟩ := h.len
    have e0 : decide ((64 : Int) < (l.length : Int)) = true := decide_eq_true (by omega)
    have HE : Hid (rulesErr l = 5) := by rw [Hid, rulesErr, if_pos h64]
    clear h h64
    go_enter Tryd.func91, Tryd.ntmps91
    go_wp2_with fail
    go_ret
    rw [HE.out]
    exact ⟨rfl, Grew.refl _⟩
  · have HE : rulesErr l = rulesL [] l := by rw [rulesErr, if_neg h64]
    rw [HE]
    rcases h with ⟨a, c, rfl, rfl⟩ | ⟨b, o, c, rfl, h0, h1, h2, h3⟩
    · clear HE h64
      go_enter Tryd.func91, Tryd.ntmps91
      go_wp2_with fail
      go_loop [3, 4, 5, 11] (fun _ _ _ u => u = .int .i64 0) (fun _ _ _ _ => 0)
      case atStart => rfl
      case round =>
        obtain rfl := hrel
        go_wp2_with fail
        go_ret
        exact ⟨rfl, Grew.refl _⟩
    · exact Rules_some l b o c w h0 (by omega) h1 h2 h3
def askErr (R : List Rule) (p : Pat) (s : ByteArray) (fuel : Int) : Int :=
  if patErr p = 0 then (if rulesErr R = 0 then (if 65536 < s.size then 4 else if fuel < 0 ∨ 100000 < fuel then 3 else 0) else rulesErr R) else patErr p
set_option maxRecDepth 100000 in
theorem ask_any (v : Value) (R : List Rule) (kv : Value) (p : Pat) (s : ByteArray) (fuel : Int) (w : World) (hR : RulesAt w v R) (hp : PatV w kv p) (hs : s.size ≤ maxLen) (hf : -9223372036854775808 ≤ fuel ∧ fuel ≤ 9223372036854775807) :
    Calls Tryd.prog 49 #[v, .agg (p.cells kv), .string s, .int .i64 fuel] w fun e w' => e = .returned (.int .i64 (askErr R p s fuel)) ∧ Grew w w' := by
  unfold maxLen at hs
  obtain ⟨ka, kc, rfl, hkl⟩ := hp.kids.len
  have HR : Hid (∀ w1, Grew w w1 → Calls Tryd.prog 91 #[v] w1 fun e w' => e = .returned (.int .i64 (rulesErr R)) ∧ Grew w1 w') := fun w1 g => Rules_any v R w1 (hR.kept g)
  have HP : Hid (∀ w1, Grew w w1 → Calls Tryd.prog 25 #[.agg (p.cells (.slice ka p.kids.length kc))] w1 fun e w' => e = .returned (.int .i64 (patErr p)) ∧ Grew w1 w') := fun w1 g => Wrong_any _ p w1 (hp.kept g)
  unfold Pat.cells at HP ⊢
  clear hR hp
  by_cases h1 : patErr p = 0
  · have h1' : (patErr p != 0) = false := by rw [h1]; rfl
    by_cases h2 : rulesErr R = 0
    · have h2' : (rulesErr R != 0) = false := by rw [h2]; rfl
      have HE : Hid (askErr R p s fuel = if 65536 < s.size then 4 else if fuel < 0 ∨ 100000 < fuel then 3 else 0) := by rw [Hid, askErr, if_pos h1, if_pos h2]
      clear h1 h2
      have k3 : 65536 < s.size ∨ (s.size ≤ 65536 ∧ fuel < 0) ∨ (s.size ≤ 65536 ∧ 100000 < fuel) ∨ (s.size ≤ 65536 ∧ 0 ≤ fuel ∧ fuel ≤ 100000) := by omega
      rcases k3 with k | k | k | k
      · have e1 : decide ((65536 : Int) < (s.size : Int)) = true := decide_eq_true (by omega)
        have HX : Hid (askErr R p s fuel = 4) := by rw [Hid, HE.out, if_pos k]
        clear k HE
        go_enter Tryd.func49, Tryd.ntmps49
        go_wp2_with fail
        refine (HP.out _ ((Grew.refl w).alloc _)).mono ?_; rintro e w2 ⟨rfl, G2⟩
        have G3 := hidd (((Grew.refl w).alloc _).trans G2)
        clear G2
        go_wp2_with fail
        refine (HR.out _ G3.out).mono ?_; rintro e w3 ⟨rfl, G4⟩
        have G5 := hidd (G3.out.trans G4)
        clear G4
        go_wp2_with fail
        go_ret
        rw [HX.out]; exact ⟨rfl, G5.out⟩
      all_goals
        have e1 : decide ((65536 : Int) < (s.size : Int)) = false := decide_eq_false (by omega)
        obtain ⟨X, hX⟩ : ∃ X, askErr R p s fuel = X := ⟨_, rfl⟩
        have HX := HE.out
        rw [if_neg (by omega)] at HX
        have HX2 := hidd HX
        clear HX HE hX
        go_enter Tryd.func49, Tryd.ntmps49
        go_wp2_with fail
        refine (HP.out _ ((Grew.refl w).alloc _)).mono ?_; rintro e w2 ⟨rfl, G2⟩
        have G3 := hidd (((Grew.refl w).alloc _).trans G2)
        clear G2
        go_wp2_with fail
        refine (HR.out _ G3.out).mono ?_; rintro e w3 ⟨rfl, G4⟩
        have G5 := hidd (G3.out.trans G4)
        clear G4
        first
        | (have e2 : decide (fuel < 0) = true := decide_eq_true (by omega)
           go_wp2_with fail
           go_ret
           rw [HX2.out, if_pos (by omega)]; exact ⟨rfl, G5.out⟩)
        | (have e2 : decide (fuel < 0) = false := decide_eq_false (by omega)
           have e3 : decide (100000 < fuel) = true := decide_eq_true (by omega)
           go_wp2_with fail
           go_ret
           rw [HX2.out, if_pos (by omega)]; exact ⟨rfl, G5.out⟩)
        | (have e2 : decide (fuel < 0) = false := decide_eq_false (by omega)
           have e3 : decide (100000 < fuel) = false := decide_eq_false (by omega)
           go_wp2_with fail
           go_ret
           rw [HX2.out, if_neg (by omega)]; exact ⟨rfl, G5.out⟩)
    · have h2' : (rulesErr R != 0) = true := by simpa using h2
      have HE : Hid (askErr R p s fuel = rulesErr R) := by rw [Hid, askErr, if_pos h1, if_neg h2]
      clear h1 h2
      go_enter Tryd.func49, Tryd.ntmps49
      go_wp2_with fail
      refine (HP.out _ ((Grew.refl w).alloc _)).mono ?_; rintro e w2 ⟨rfl, G2⟩
      have G3 := hidd (((Grew.refl w).alloc _).trans G2)
      clear G2
      go_wp2_with fail
      refine (HR.out _ G3.out).mono ?_; rintro e w3 ⟨rfl, G4⟩
      have G5 := hidd (G3.out.trans G4)
      clear G4
      go_wp2_with fail
      go_ret
      rw [HE.out]; exact ⟨rfl, G5.out⟩
  · have h1' : (patErr p != 0) = true := by simpa using h1
    have HE : Hid (askErr R p s fuel = patErr p) := by rw [Hid, askErr, if_neg h1]
    clear h1
    go_enter Tryd.func49, Tryd.ntmps49
    go_wp2_with fail
    refine (HP.out _ ((Grew.refl w).alloc _)).mono ?_; rintro e w2 ⟨rfl, G2⟩
    have G3 := hidd (((Grew.refl w).alloc _).trans G2)
    clear G2
    go_wp2_with fail
    go_ret
    rw [HE.out]; exact ⟨rfl, G3.out⟩
end Go.Proofs.YtkkdpafkafjfgaaDoor
namespace Go.Proofs.YtkkdpafkafjfgaaDoor
open Go.RowKit Go.ChangeShapes
set_option linter.unusedVariables false
theorem plain_addr {w : World} {a : Addr} {v : Value} (h : w.cell? a = some v) : a = ⟨a.block, a.off, none⟩ := by
  obtain ⟨b, o, sp⟩ := a
  cases sp with
  | none => rfl
  | some x =>
    unfold World.cell? at h
    split at h
    · simp at h
    · cases h
theorem plain_add (b o i : Nat) : (⟨b, o, none⟩ : Addr).add i = ⟨b, o + i, none⟩ := by
  unfold Addr.add; split
  · next h0 => subst h0; rfl
  · rfl
theorem cells_pat : Tryd.prog.cellsOf 24 = 5 := by kernel_rfl
theorem cells_int : Tryd.prog.cellsOf 3 = 1 := by kernel_rfl
theorem cells_string : Tryd.prog.cellsOf 9 = 1 := by kernel_rfl
theorem cells_pats : Tryd.prog.cellsOf 22 = 1 := by kernel_rfl
theorem choose_below {α : Type} (z : α) {n : Nat} {Q : Nat → α → Prop} (h : ∀ i, i < n → ∃ x, Q i x) : ∃ l : List α, l.length = n ∧ ∀ i, i < n → Q i (l.getD i z) := by
  induction n with
  | zero => exact ⟨[], rfl, fun i hi => by omega⟩
  | succ n ih =>
    obtain ⟨l, hl, hq⟩ := ih (fun i hi => h i (by omega))
    obtain ⟨x, hx⟩ := h n (by omega)
    refine ⟨l ++ [x], by simp [hl], fun i hi => ?_⟩
    by_cases e : i < n
    · rw [List.getD_eq_getElem?_getD, List.getElem?_append_left (by omega), ← List.getD_eq_getElem?_getD]; exact hq i e
    · obtain rfl : i = n := by omega
      rw [List.getD_eq_getElem?_getD, List.getElem?_append_right (by omega), hl, Nat.sub_self]; exact hx
theorem list_five {α : Type} : ∀ {l : List α}, l.length = 5 → ∃ a b c d e, l = [a, b, c, d, e]
  | [a, b, c, d, e], _ => ⟨a, b, c, d, e, rfl⟩
section
variable {H : Type} {enc : TypeId × Value → H} {w : World} {base : Nat} {sp : Nat → Bool} {hd : Bool}
theorem trod_five {P : Program} {t : TypeId} {f0 f1 f2 f3 f4 : Field} {fuel : Nat} {cs : List Value} {x : DataW H × List MemPlace} (ht : P.underlying t = some (.struct #[f0, f1, f2, f3, f4])) (h : DataW.trod enc P w base sp hd fuel t cs = some x) :
    ∃ y0 y1 y2 y3 y4 n, fuel = n + 1 ∧ cs.length = P.cellsOf t ∧ DataW.trod enc P w base sp hd n f0.type ((cs.drop f0.offset).take (P.cellsOf f0.type)) = some y0 ∧
      DataW.trod enc P w base sp hd n f1.type ((cs.drop f1.offset).take (P.cellsOf f1.type)) = some y1 ∧ DataW.trod enc P w base sp hd n f2.type ((cs.drop f2.offset).take (P.cellsOf f2.type)) = some y2 ∧
      DataW.trod enc P w base sp hd n f3.type ((cs.drop f3.offset).take (P.cellsOf f3.type)) = some y3 ∧ DataW.trod enc P w base sp hd n f4.type ((cs.drop f4.offset).take (P.cellsOf f4.type)) = some y4 := by
  obtain ⟨xs, n, e, _, hl, hlen, hf⟩ := DataW.trod_struct ht h
  obtain ⟨y0, y1, y2, y3, y4, rfl⟩ := list_five hlen
  exact ⟨y0, y1, y2, y3, y4, n, e, hl, by simpa using hf 0 f0 rfl, by simpa using hf 1 f1 rfl, by simpa using hf 2 f2 rfl, by simpa using hf 3 f3 rfl, by simpa using hf 4 f4 rfl⟩
theorem open_pat : ∀ (fuel : Nat) (cs : List Value) (x : DataW H × List MemPlace), DataW.trod enc Tryd.prog w base sp hd fuel 24 cs = some x → ∃ p kv, cs = (p.cells kv).toList ∧ PatV w kv p := by
  intro fuel
  induction fuel using Nat.strongRecOn with
  | _ fuel ih =>
    intro cs x h
    obtain ⟨y0, y1, y2, y3, y4, n, rfl, hl, f0, f1, f2, f3, f4⟩ := trod_five Tryd.underlying24 h
    rw [cells_pat] at hl
    clear h
    obtain ⟨c0, c1, c2, c3, c4, rfl⟩ := list_five hl
    simp only [cells_int, cells_string, cells_pats, List.drop, List.take] at f0 f1 f2 f3 f4
    obtain ⟨k, e0, _, hk⟩ := DataW.trod_int Tryd.underlying3 f0
    obtain ⟨t, e1, _, ht⟩ := DataW.trod_string Tryd.underlying9 f1
    obtain ⟨m, e2, _, hm⟩ := DataW.trod_int Tryd.underlying3 f2
    obtain ⟨nm, e3, _, hnm⟩ := DataW.trod_string Tryd.underlying9 f3
    have hk := bd_i64 hk
    have hm := bd_i64 hm
    simp only [List.cons.injEq, and_true] at e0 e1 e2 e3
    subst e0 e1 e2 e3
    rcases DataW.trod_slice Tryd.underlying22 f4 with ⟨e4, _⟩ | ⟨a, len, cap, elems, rest, n', rfl, e4, _, hb, hlc, hcm, hel, hall, _, _⟩
    · simp only [List.cons.injEq, and_true] at e4
      subst e4
      exact ⟨.mk k t m nm [], .slice none 0 0, rfl, Or.inl ⟨none, 0, rfl, rfl⟩, hk, hm, ht, hnm⟩
    · simp only [List.cons.injEq, and_true] at e4
      subst e4
      have hq : ∀ i, i < len → ∃ p : Pat, ∃ b o, a = ⟨b, o, none⟩ ∧ PatAt w b (o + i * 5) p := by
        intro i hi
        have hx := hall i hi
        rw [List.getElem?_eq_getElem (by omega)] at hx
        obtain ⟨cs', h1, h2⟩ := Option.bind_eq_some_iff.1 hx
        obtain ⟨p, kv, rfl, hv⟩ := ih n' (by omega) cs' _ h2
        rw [cells_pat] at h1
        obtain ⟨_, _, hc⟩ := World.cells?_some h1
        have hp : a = ⟨a.block, a.off, none⟩ := by
          have hx0 := hall 0 (by omega)
          rw [List.getElem?_eq_getElem (show 0 < elems.length by omega), Nat.zero_mul, show a.add 0 = a from rfl] at hx0
          obtain ⟨cs0, g1, g2⟩ := Option.bind_eq_some_iff.1 hx0
          obtain ⟨p0, kv0, rfl, _⟩ := ih n' (by omega) cs0 _ g2
          rw [cells_pat] at g1
          obtain ⟨_, _, gc⟩ := World.cells?_some g1
          exact plain_addr (v := .int .i64 p0.kind) (gc 0 (by omega))
        refine ⟨p, a.block, a.off, hp, ?_⟩
        rw [hp] at hc
        have c0 := hc 0 (by omega)
        have c1 := hc 1 (by omega)
        have c2 := hc 2 (by omega)
        have c3 := hc 3 (by omega)
        have c4 := hc 4 (by omega)
        simp only [plain_add, Nat.add_zero] at c0 c1 c2 c3 c4
        exact .shut ⟨c0, c1, c2, c3, c4, hv.hk, hv.hn, hv.ht, hv.hm⟩ hv.kids
      by_cases h0 : len = 0
      · subst h0
        exact ⟨.mk k t m nm [], .slice (some a) 0 cap, rfl, Or.inl ⟨some a, cap, rfl, rfl⟩, hk, hm, ht, hnm⟩
      · obtain ⟨_, b, o, hab, _⟩ := hq 0 (by omega)
        subst hab
        obtain ⟨l, hll, hlq⟩ := choose_below Pat.zero hq
        subst hll
        refine ⟨.mk k t m nm l, .slice (some ⟨b, o, none⟩) l.length cap, rfl, Or.inr ⟨b, o, cap, rfl, by show 0 < l.length; omega, hlc, hcm, fun i hi => ?_⟩, hk, hm, ht, hnm⟩
        obtain ⟨b', o', e, hp⟩ := hlq i hi
        cases e
        exact hp
theorem pat_of {cs : Array Value} {d : DataW H} {ps : List MemPlace} (h : DataW.Trod enc Tryd.prog w base sp hd 24 (.agg cs) d ps) : ∃ p kv, cs = p.cells kv ∧ PatV w kv p := by
  obtain ⟨fuel, h⟩ := h
  obtain ⟨p, kv, e, hp⟩ := open_pat _ _ _ h
  exact ⟨p, kv, by simpa [Value.cells] using e, hp⟩
set_option maxRecDepth 100000 in
theorem open_patv {base' : Nat} {r : Reach} {v : Value} {d : DataW H} {ps : List MemPlace} (hval : Value.okWide Tryd.prog w r base' 24 v) (h : DataW.Trod enc Tryd.prog w base sp hd 24 v d ps) : ∃ p kv, v = .agg (p.cells kv) ∧ PatV w kv p := by
  obtain ⟨cs, rfl, _⟩ := Go.WideShapes.okWide_struct Tryd.underlying24 hval
  obtain ⟨p, kv, rfl, hp⟩ := pat_of h
  exact ⟨p, kv, rfl, hp⟩
end
theorem laidOut : laidOutB Tryd.prog = true := by kernel_rfl
end Go.Proofs.YtkkdpafkafjfgaaDoor
