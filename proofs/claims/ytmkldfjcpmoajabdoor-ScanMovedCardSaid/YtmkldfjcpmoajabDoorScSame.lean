/- The document's SameGifts and SameWays: at all lists of gifts and of ways. -/
import Derived.Test.YtmkldfjcpmoajabDoorScWaysW
import Derived.Laws.StructEq
/-! The document's SameGifts and SameWays: at all lists of gifts and of ways. -/
namespace Go.Proofs.YtmkldfjcpmoajabDoor
open Go.RowKit
set_option linter.unusedVariables false

def gift0 : Gift := (ByteArray.empty, ByteArray.empty)
def way0 : Way := (0, [])
/-- The slice v holds these gifts. -/
def GiftsV (w : World) (v : Value) (l : List Gift) : Prop :=
  (∃ a c, v = .slice a 0 c ∧ l = []) ∨ ∃ b o c : Nat, v = .slice (some ⟨b, o, none⟩) l.length c ∧ 0 < l.length ∧ l.length ≤ c ∧ c ≤ maxLen ∧
    ∀ i, i < l.length → w.cell? ⟨b, o + i * 2, none⟩ = some (.string (l.getD i gift0).1) ∧ w.cell? ⟨b, o + i * 2 + 1, none⟩ = some (.string (l.getD i gift0).2)
theorem GiftsV.kept {w w' : World} (g : Grew w w') {v : Value} {l : List Gift} (h : GiftsV w v l) : GiftsV w' v l := by
  rcases h with h | ⟨b, o, c, h1, h2, h3, h4, h5⟩
  · exact Or.inl h
  · exact Or.inr ⟨b, o, c, h1, h2, h3, h4, fun i hi => ⟨g.keeps (h5 i hi).1, g.keeps (h5 i hi).2⟩⟩
theorem GiftsV.len {w : World} {v : Value} {l : List Gift} (h : GiftsV w v l) : ∃ a c, v = .slice a l.length c ∧ l.length ≤ c ∧ l.length ≤ 9223372036854775807 := by
  rcases h with ⟨a, c, h, e⟩ | ⟨b, o, c, h, h0, h1, h2, _⟩
  · exact ⟨a, c, by rw [e]; exact h, by rw [e]; simp, by rw [e]; simp⟩
  · exact ⟨_, c, h, h1, by unfold maxLen at h2; omega⟩
theorem giftsV_nil (w : World) : GiftsV w (.slice none 0 0) [] := Or.inl ⟨_, _, rfl, rfl⟩
theorem GiftsV.of_own {w : World} {B : Nat} {v : Value} {l : List Gift} (h : w.ownsRow B 41 2 v l.length (saidCells l)) : GiftsV w v l := by
  have h0 := h
  rcases h.2 with ⟨h1, h2⟩ | ⟨g, cap, cur, h1, h2, h3, h4, h5, h6, h7⟩
  · exact Or.inl ⟨_, _, h1, List.eq_nil_of_length_eq_zero h2⟩
  · subst h1
    rcases Nat.eq_zero_or_pos l.length with hz | hz
    · exact Or.inl ⟨_, _, by rw [hz], List.eq_nil_of_length_eq_zero hz⟩
    · refine Or.inr ⟨g, 0, cap, rfl, hz, h4, h5, fun i hi => ?_⟩
      obtain ⟨e1, e2⟩ := cells_gift l i (l.getD i gift0) (by rw [List.getD_eq_getElem?_getD, List.getElem?_eq_getElem hi]; rfl)
      have k1 := World.ownsRow.cellAt h0 (i * 2) (by omega)
      have k2 := World.ownsRow.cellAt h0 (i * 2 + 1) (by omega)
      rw [Nat.zero_add, k1, k2]
      rw [List.getD_eq_getElem?_getD, e1, List.getD_eq_getElem?_getD, e2]
      exact ⟨rfl, rfl⟩
/-- The slice v holds these ways. -/
def WaysV (w : World) (v : Value) (l : List Way) : Prop :=
  (∃ a c, v = .slice a 0 c ∧ l = []) ∨ ∃ b o c : Nat, v = .slice (some ⟨b, o, none⟩) l.length c ∧ 0 < l.length ∧ l.length ≤ c ∧ c ≤ maxLen ∧
    ∀ i, i < l.length → w.cell? ⟨b, o + i * 2, none⟩ = some (.int .i64 (l.getD i way0).1) ∧ ∃ gv, w.cell? ⟨b, o + i * 2 + 1, none⟩ = some gv ∧ GiftsV w gv (l.getD i way0).2
theorem WaysV.kept {w w' : World} (g : Grew w w') {v : Value} {l : List Way} (h : WaysV w v l) : WaysV w' v l := by
  rcases h with h | ⟨b, o, c, h1, h2, h3, h4, h5⟩
  · exact Or.inl h
  · refine Or.inr ⟨b, o, c, h1, h2, h3, h4, fun i hi => ⟨g.keeps (h5 i hi).1, ?_⟩⟩
    obtain ⟨gv, k1, k2⟩ := (h5 i hi).2
    exact ⟨gv, g.keeps k1, k2.kept g⟩
theorem WaysV.len {w : World} {v : Value} {l : List Way} (h : WaysV w v l) : ∃ a c, v = .slice a l.length c ∧ l.length ≤ c ∧ l.length ≤ 9223372036854775807 := by
  rcases h with ⟨a, c, h, e⟩ | ⟨b, o, c, h, h0, h1, h2, _⟩
  · exact ⟨a, c, by rw [e]; exact h, by rw [e]; simp, by rw [e]; simp⟩
  · exact ⟨_, c, h, h1, by unfold maxLen at h2; omega⟩
theorem wayCells_at : ∀ (l : List Way) (gs : List Value), gs.length = l.length → ∀ i, i < l.length → (wayCells l gs)[i * 2]? = some (.int .i64 (l.getD i way0).1) ∧ (wayCells l gs)[i * 2 + 1]? = gs[i]?
  | [], gs, _, i, hi => by simp at hi
  | x :: l, [], h, i, hi => by simp at h
  | x :: l, g :: gs, h, 0, hi => ⟨rfl, rfl⟩
  | x :: l, g :: gs, h, i + 1, hi => by
    have := wayCells_at l gs (by simpa using h) i (by simpa using hi)
    have e : wayCells (x :: l) (g :: gs) = .int .i64 x.1 :: g :: wayCells l gs := rfl
    rw [e, show (i + 1) * 2 = i * 2 + 1 + 1 by omega]
    exact ⟨by simpa using this.1, by simpa using this.2⟩
theorem WaysV.of_at {w : World} {B : Nat} {v : Value} {l : List Way} (h : WaysAt w B v l) : WaysV w v l := by
  obtain ⟨gs, hl, h0, hg⟩ := h
  have h := h0
  rcases h.2 with ⟨h1, h2⟩ | ⟨g, cap, cur, h1, h2, h3, h4, h5, h6, h7⟩
  · exact Or.inl ⟨_, _, h1, List.eq_nil_of_length_eq_zero h2⟩
  · subst h1
    rcases Nat.eq_zero_or_pos l.length with hz | hz
    · exact Or.inl ⟨_, _, by rw [hz], List.eq_nil_of_length_eq_zero hz⟩
    · refine Or.inr ⟨g, 0, cap, rfl, hz, h4, h5, fun i hi => ?_⟩
      obtain ⟨e1, e2⟩ := wayCells_at l gs hl i hi
      have k1 := World.ownsRow.cellAt h0 (i * 2) (by omega)
      have k2 := World.ownsRow.cellAt h0 (i * 2 + 1) (by omega)
      have hgi : i < gs.length := by omega
      rw [Nat.zero_add, k1, k2]
      rw [List.getD_eq_getElem?_getD, e1, List.getD_eq_getElem?_getD, e2, List.getElem?_eq_getElem hgi]
      refine ⟨rfl, _, rfl, .of_own (hg (l.getD i way0, gs[i]) ?_)⟩
      rw [List.getD_eq_getElem?_getD, List.getElem?_eq_getElem hi]
      have : (l.zip gs)[i]'(by rw [List.length_zip]; omega) = (l[i], gs[i]) := List.getElem_zip
      show (l[i], gs[i]) ∈ _
      rw [← this]
      exact List.getElem_mem _

/-- Are two lists of gifts the same? -/
def sameG (a b : List Gift) : Bool := decide (a = b)
theorem take_eq_snoc {α : Type} (z : α) {a b : List α} {k : Nat} (h : a.take k = b.take k) (ha : k < a.length) (hb : k < b.length) (e : a.getD k z = b.getD k z) : a.take (k + 1) = b.take (k + 1) := by
  rw [List.getD_eq_getElem?_getD, List.getD_eq_getElem?_getD, List.getElem?_eq_getElem ha, List.getElem?_eq_getElem hb] at e
  rw [List.take_succ_eq_append_getElem ha, List.take_succ_eq_append_getElem hb, h, show a[k] = b[k] from e]
theorem ne_of_getD {α : Type} (z : α) {a b : List α} {k : Nat} (h : a.getD k z ≠ b.getD k z) : a ≠ b := fun e => h (by rw [e])
end Go.Proofs.YtmkldfjcpmoajabDoor
/-! The document's SameGifts and SameWays: the walks. -/
namespace Go.Proofs.YtmkldfjcpmoajabDoor
open Go.RowKit
set_option linter.unusedVariables false
theorem gift_held : Tryd.prog.stoodInHeld 41 = false := by kernel_rfl
theorem gift_guard : Tryd.prog.eqGuardType Tryd.prog.depth 41 = false := by kernel_rfl
theorem text_eq {a b : ByteArray} (h : a = b) : (a.toList == b.toList) = true := by subst h; simp
theorem text_ne {a b : ByteArray} (h : a ≠ b) : (a.toList == b.toList) = false := by
  rw [beq_eq_false_iff_ne]
  intro e
  exact h (str_ext (by rw [ByteArray.toList_eq, ByteArray.toList_eq] at e; exact e))
section
variable {w : World} {va vb : Value} {la lb : List Gift}
set_option maxRecDepth 100000 in
set_option maxHeartbeats 1000000 in
theorem SameGifts_any (ha : GiftsV w va la) (hb : GiftsV w vb lb) :
    Calls Tryd.prog 14 #[va, vb] w fun e w' => e = .returned (.bool (decide (la = lb))) ∧ ∃ n, w' = w.drewN n := by
  obtain ⟨pa, ca, rfl, hca, hna⟩ := ha.len
  obtain ⟨pb, cb, rfl, hcb, hnb⟩ := hb.len
  have HA := hidd ha
  have HB := hidd hb
  clear ha hb
  by_cases hl : la.length = lb.length
  · have HL := hidd hl
    have e1 : ((la.length : Int) != (lb.length : Int)) = false := by rw [hl]; simp
    go_enter Tryd.func14, Tryd.ntmps14
    clear hl
    go_wp2_with fail
    clear e1
    go_loopw [5, 13] (fun _ u wr => ∃ k : Nat, k ≤ la.length ∧ u = .int .i64 k ∧ Hid (la.take k = lb.take k) ∧ Hid (∃ n, wr = w.drewN n)) (fun _ u _ => la.length - (intOf u).toNat)
    case atStart => exact ⟨0, Nat.zero_le _, rfl, rfl, 0, rfl⟩
    case round =>
      obtain ⟨k, hk, rfl, HE, HG0⟩ := hrel
      obtain ⟨nd, rfl⟩ := HG0.out
      clear HG0
      have HG := hidd ((Grew.refl w).drewN nd)
      by_cases hlt : k < la.length
      · obtain ⟨ba, oa, rfl, ga⟩ : ∃ b o : Nat, pa = some ⟨b, o, none⟩ ∧ ∀ i, i < la.length → w.cell? ⟨b, o + i * 2, none⟩ = some (.string (la.getD i gift0).1) ∧ w.cell? ⟨b, o + i * 2 + 1, none⟩ = some (.string (la.getD i gift0).2) := by
          rcases HA.out with ⟨_, _, e, e2⟩ | ⟨b, o, c, e, _, _, _, h⟩
          · rw [e2] at hlt; simp at hlt
          · cases e; exact ⟨b, o, rfl, h⟩
        have hltb : k < lb.length := by have := HL.out; omega
        obtain ⟨bb, ob, rfl, gb⟩ : ∃ b o : Nat, pb = some ⟨b, o, none⟩ ∧ ∀ i, i < lb.length → w.cell? ⟨b, o + i * 2, none⟩ = some (.string (lb.getD i gift0).1) ∧ w.cell? ⟨b, o + i * 2 + 1, none⟩ = some (.string (lb.getD i gift0).2) := by
          rcases HB.out with ⟨_, _, e, e2⟩ | ⟨b, o, c, e, _, _, _, h⟩
          · rw [e2] at hltb; simp at hltb
          · cases e; exact ⟨b, o, rfl, h⟩
        obtain ⟨a0, a1⟩ := ga k hlt
        obtain ⟨b0, b1⟩ := gb k hltb
        clear ga gb
        have HX := hidd (take_eq_snoc gift0 HE.out hlt hltb)
        have HY := hidd (ne_of_getD gift0 (a := la) (b := lb) (k := k))
        obtain ⟨⟨x1, x2⟩, hx⟩ : ∃ x, la.getD k gift0 = x := ⟨_, rfl⟩
        obtain ⟨⟨y1, y2⟩, hy⟩ : ∃ y, lb.getD k gift0 = y := ⟨_, rfl⟩
        rw [hx] at a0 a1 HX HY
        rw [hy] at b0 b1 HX HY
        clear hx hy
        dsimp only at a0 a1 b0 b1
        have hs := gift_held
        have hg := gift_guard
        by_cases h1 : x1 = y1
        · have f1 := text_eq h1
          by_cases h2 : x2 = y2
          · have f2 := text_eq h2
            have HZ := hidd (HX.out (by rw [h1, h2]))
            clear h1 h2 HX HY
            go_wp2_with fail
            go_quiet (fail)
            go_wp2_with fail
            go_roundw
            case rel => exact ⟨k + 1, by omega, by go_num, HZ.out, _, rfl⟩
            case measure => simp [intOf]; omega
          · have f2 := text_ne h2
            have HZ : Hid (decide (la = lb) = false) := decide_eq_false (HY.out (fun e => h2 (by cases e; rfl)))
            clear h1 h2 HX HY
            go_wp2_with fail
            go_quiet (fail)
            go_wp2_with fail
            go_ret
            exact ⟨ret_bool HZ.out.symm, _, by rw [World.drewN_drewN]⟩
        · have f1 := text_ne h1
          have HZ : Hid (decide (la = lb) = false) := decide_eq_false (HY.out (fun e => h1 (by cases e; rfl)))
          clear h1 HX HY
          go_wp2_with fail
          go_quiet (fail)
          go_wp2_with fail
          go_ret
          exact ⟨ret_bool HZ.out.symm, _, by rw [World.drewN_drewN]⟩
      · have HZ : Hid (decide (la = lb) = true) := decide_eq_true (by
          have h := HE.out
          have := HL.out
          rwa [List.take_of_length_le (by omega), List.take_of_length_le (by omega)] at h)
        go_wp2_with fail
        go_ret
        exact ⟨ret_bool HZ.out.symm, nd, rfl⟩
  · have e1 : ((la.length : Int) != (lb.length : Int)) = true := by simp; omega
    have HZ : Hid (decide (la = lb) = false) := decide_eq_false (fun e => hl (by rw [e]))
    clear hl
    go_enter Tryd.func14, Tryd.ntmps14
    go_wp2_with fail
    go_ret
    exact ⟨ret_bool HZ.out.symm, 0, rfl⟩
end
theorem quiet_add {P : Program} {f : FuncId} {args : Array Value} {w : World} {a n : Nat} {v : Value}
    (h : Calls P f args (w.drewN (a + n)) fun e w' => e = .returned v ∧ ∃ m, w' = (w.drewN (a + n)).drewN m) :
    Calls P f args (w.drewN (a + n)) fun e w'' => e = .returned v ∧ ∃ m, w'' = w.drewN (a + m) :=
  h.mono fun _ _ ⟨he, m, hm⟩ => ⟨he, n + m, by rw [hm, World.drewN_drewN, Nat.add_assoc]⟩
section
variable {w : World} {va vb : Value} {la lb : List Way}
set_option maxRecDepth 100000 in
set_option maxHeartbeats 1000000 in
theorem SameWays_any (ha : WaysV w va la) (hb : WaysV w vb lb) :
    Calls Tryd.prog 16 #[va, vb] w fun e w' => e = .returned (.bool (decide (la = lb))) ∧ ∃ n, w' = w.drewN n := by
  obtain ⟨pa, ca, rfl, hca, hna⟩ := ha.len
  obtain ⟨pb, cb, rfl, hcb, hnb⟩ := hb.len
  have HA := hidd ha
  have HB := hidd hb
  clear ha hb
  by_cases hl : la.length = lb.length
  · have HL := hidd hl
    have e1 : ((la.length : Int) != (lb.length : Int)) = false := by rw [hl]; simp
    go_enter Tryd.func16, Tryd.ntmps16
    clear hl
    go_wp2_with fail
    clear e1
    go_loopw [5, 13] (fun _ u wr => ∃ k : Nat, k ≤ la.length ∧ u = .int .i64 k ∧ Hid (la.take k = lb.take k) ∧ Hid (∃ n, wr = w.drewN n)) (fun _ u _ => la.length - (intOf u).toNat)
    case atStart => exact ⟨0, Nat.zero_le _, rfl, rfl, 0, rfl⟩
    case round =>
      obtain ⟨k, hk, rfl, HE, HG0⟩ := hrel
      obtain ⟨nd, rfl⟩ := HG0.out
      clear HG0
      by_cases hlt : k < la.length
      · obtain ⟨ba, oa, rfl, ga⟩ : ∃ b o : Nat, pa = some ⟨b, o, none⟩ ∧ ∀ i, i < la.length → w.cell? ⟨b, o + i * 2, none⟩ = some (.int .i64 (la.getD i way0).1) ∧ ∃ gv, w.cell? ⟨b, o + i * 2 + 1, none⟩ = some gv ∧ GiftsV w gv (la.getD i way0).2 := by
          rcases HA.out with ⟨_, _, e, e2⟩ | ⟨b, o, c, e, _, _, _, h⟩
          · rw [e2] at hlt; simp at hlt
          · cases e; exact ⟨b, o, rfl, h⟩
        have hltb : k < lb.length := by have := HL.out; omega
        obtain ⟨bb, ob, rfl, gb⟩ : ∃ b o : Nat, pb = some ⟨b, o, none⟩ ∧ ∀ i, i < lb.length → w.cell? ⟨b, o + i * 2, none⟩ = some (.int .i64 (lb.getD i way0).1) ∧ ∃ gv, w.cell? ⟨b, o + i * 2 + 1, none⟩ = some gv ∧ GiftsV w gv (lb.getD i way0).2 := by
          rcases HB.out with ⟨_, _, e, e2⟩ | ⟨b, o, c, e, _, _, _, h⟩
          · rw [e2] at hltb; simp at hltb
          · cases e; exact ⟨b, o, rfl, h⟩
        obtain ⟨a0, gva, a1, ha2⟩ := ga k hlt
        obtain ⟨b0, gvb, b1, hb2⟩ := gb k hltb
        clear ga gb
        have HX := hidd (take_eq_snoc way0 HE.out hlt hltb)
        have HY := hidd (ne_of_getD way0 (a := la) (b := lb) (k := k))
        obtain ⟨⟨x1, x2⟩, hx⟩ : ∃ x, la.getD k way0 = x := ⟨_, rfl⟩
        obtain ⟨⟨y1, y2⟩, hy⟩ : ∃ y, lb.getD k way0 = y := ⟨_, rfl⟩
        rw [hx] at a0 ha2 HX HY
        rw [hy] at b0 hb2 HX HY
        clear hx hy
        dsimp only at a0 b0 ha2 hb2
        have HC : Hid (∀ n, Calls Tryd.prog 14 #[gva, gvb] (w.drewN n) fun e w' => e = .returned (.bool (decide (x2 = y2))) ∧ ∃ m, w' = (w.drewN n).drewN m) :=
          fun n => SameGifts_any (ha2.kept ((Grew.refl w).drewN n)) (hb2.kept ((Grew.refl w).drewN n))
        clear ha2 hb2
        by_cases h1 : x1 = y1
        · have f1 : ((x1 : Int) != (y1 : Int)) = false := by rw [h1]; simp
          by_cases h2 : x2 = y2
          · have f2 : decide (x2 = y2) = true := decide_eq_true h2
            rw [f2] at HC
            have HZ := hidd (HX.out (by rw [h1, h2]))
            clear h1 h2 HX HY f2
            go_wp2_with fail
            go_quiet ((go_at_call 14; exact quiet_add (HC.out _)))
            go_wp2_with fail
            go_roundw
            case rel => exact ⟨k + 1, by omega, by go_num, HZ.out, _, rfl⟩
            case measure => simp [intOf]; omega
          · have f2 : decide (x2 = y2) = false := decide_eq_false h2
            rw [f2] at HC
            have HZ : Hid (decide (la = lb) = false) := decide_eq_false (HY.out (fun e => h2 (by cases e; rfl)))
            clear h1 h2 HX HY f2
            go_wp2_with fail
            go_quiet ((go_at_call 14; exact quiet_add (HC.out _)))
            go_wp2_with fail
            go_ret
            exact ⟨ret_bool HZ.out.symm, _, by rw [World.drewN_drewN]⟩
        · have f1 : ((x1 : Int) != (y1 : Int)) = true := by simp; omega
          have HZ : Hid (decide (la = lb) = false) := decide_eq_false (HY.out (fun e => h1 (by cases e; rfl)))
          clear h1 HX HY
          go_wp2_with fail
          go_quiet (fail)
          go_wp2_with fail
          go_ret
          exact ⟨ret_bool HZ.out.symm, _, by rw [World.drewN_drewN]⟩
      · have HZ : Hid (decide (la = lb) = true) := decide_eq_true (by
          have h := HE.out
          have := HL.out
          rwa [List.take_of_length_le (by omega), List.take_of_length_le (by omega)] at h)
        go_wp2_with fail
        go_ret
        exact ⟨ret_bool HZ.out.symm, nd, rfl⟩
  · have e1 : ((la.length : Int) != (lb.length : Int)) = true := by simp; omega
    have HZ : Hid (decide (la = lb) = false) := decide_eq_false (fun e => hl (by rw [e]))
    clear hl
    go_enter Tryd.func16, Tryd.ntmps16
    go_wp2_with fail
    go_ret
    exact ⟨ret_bool HZ.out.symm, 0, rfl⟩
end
end Go.Proofs.YtmkldfjcpmoajabDoor
