/- What the one who asks for a match does behind a piece: it is found. -/
import Derived.Test.YtcmdhgamlhnioaaDoorScRT
import Derived.Test.YtcmdhgamlhnioaaDoorScRB
import Derived.Test.YtcmdhgamlhnioaaDoorScMatch
import Derived.Test.YtcmdhgamlhnioaaDoorScWays
namespace Go.Proofs.YtcmdhgamlhnioaaDoor
open Go.RowKit
set_option linter.unusedVariables false
abbrev Fnd := Option (Nat × Nat × List Gift)
def giftsOf (x : Fnd) : List Gift := match x with | some (_, _, g) => g | none => []
def mCells (x : Fnd) (gv : Value) : Array Value := match x with
  | none => zeroMatch
  | some (a, b, _) => #[.bool true, .int .i64 a, .int .i64 b, gv, .slice none 0 0, .int .i64 0]
theorem mCells_six (x : Fnd) (gv : Value) : ∃ x0 x1 x2 x3 x4 x5, mCells x gv = #[x0, x1, x2, x3, x4, x5] := by
  cases x with
  | none => exact ⟨_, _, _, _, _, _, rfl⟩
  | some y => obtain ⟨a, b, g⟩ := y; exact ⟨_, _, _, _, _, _, rfl⟩
def OM (E : Env) : OutP Fnd := fun w M ov x => ∃ gv, w.heap[E.ob]? = some (.cells (mCells x.1 gv) 28 (0, 0)) ∧ GV w M gv (giftsOf x.1) ∧ ov.ownBlock = none
theorem om_ok (E : Env) : OutOk E (OM E) := by
  constructor
  rintro w w' M M' C ov ⟨x, n⟩ ⟨gv, h1, h2, h3⟩ hsz hC hblk hM'
  have hmay : ∀ k, k < w.heap.size → ¬ M k → w'.heap[k]? = w.heap[k]? := fun k hk hn => hblk k hk (fun hc => hn (hC k hc).1)
  have hsafe : ∀ k, Safe M w k → Safe M' w' k := fun k hk => ⟨Nat.lt_of_lt_of_le hk.1 hsz, fun hm => by rcases hM' k hm with h | h; exact hk.2 h; have := hk.1; omega⟩
  have hob : E.ob < w.heap.size := (Array.getElem?_eq_some_iff.1 h1).1
  refine ⟨gv, by rw [hblk _ hob (fun hc => (hC _ hc).2.1 rfl)]; exact h1, ⟨?_, fun b hb => hsafe b (h2.2 b hb)⟩, h3⟩
  rcases h2.1 with k1 | ⟨b, o, c, k1, k2, k3, k4, k5⟩
  · exact Or.inl k1
  · have hs := h2.2 b (by rw [k1]; rfl)
    exact Or.inr ⟨b, o, c, k1, k2, k3, k4, fun i hi => ⟨by rw [World.cell?_of_block (hmay _ hs.1 hs.2)]; exact (k5 i hi).1, by rw [World.cell?_of_block (hmay _ hs.1 hs.2)]; exact (k5 i hi).2⟩⟩
theorem put6_other {w : World} {rb k : Nat} (h : rb ≠ k) (b0 b1 b2 b3 b4 b5 : Value) : (put6 w rb b0 b1 b2 b3 b4 b5).heap[k]? = w.heap[k]? := by
  unfold put6
  rw [setCell_heap_other _ _ _ h, setCell_heap_other _ _ _ h, setCell_heap_other _ _ _ h, setCell_heap_other _ _ _ h, setCell_heap_other _ _ _ h, setCell_heap_other _ _ _ h]
theorem put6_size (w : World) (rb : Nat) (b0 b1 b2 b3 b4 b5 : Value) : (put6 w rb b0 b1 b2 b3 b4 b5).heap.size = w.heap.size := by simp [put6, World.setCell]
theorem put6_at {w : World} {rb : Nat} {x0 x1 x2 x3 x4 x5 : Value} {t : TypeId} (h : w.heap[rb]? = some (.cells #[x0, x1, x2, x3, x4, x5] t (0, 0))) (b0 b1 b2 b3 b4 b5 : Value) : (put6 w rb b0 b1 b2 b3 b4 b5).heap[rb]? = some (.cells #[b0, b1, b2, b3, b4, b5] t (0, 0)) := by
  have h1 := setCell_heap_same h 0 b0
  have h2 := setCell_heap_same h1 1 b1
  have h3 := setCell_heap_same h2 2 b2
  have h4 := setCell_heap_same h3 3 b3
  have h5 := setCell_heap_same h4 4 b4
  exact setCell_heap_same h5 5 b5
section
variable {E : Env} {w : World} {M : Nat → Prop} {s : LS Fnd} {sv ov : Value}
/-- It is found. -/
theorem LkSt.found (h : LkSt E (OM E) w M s sv ov) {a b : Nat} {g : List Gift} {gv : Value} (hgv : GV w M gv g) :
    LkSt E (OM E) (put6 w E.ob (.bool true) (.int .i64 a) (.int .i64 b) gv (.slice none 0 0) (.int .i64 0)) M { s with out := some (a, b, g), ways := s.ways + 1 } sv ov ∧ Turn M M w (put6 w E.ob (.bool true) (.int .i64 a) (.int .i64 b) gv (.slice none 0 0) (.int .i64 0)) := by
  have hm : M E.lb := (h.may _).2 (Or.inl rfl)
  have hmo : M E.ob := (h.may _).2 (Or.inr (Or.inl rfl))
  obtain ⟨gv0, o1, o2, o3⟩ := h.out
  obtain ⟨x0, x1, x2, x3, x4, x5, hx⟩ := mCells_six s.out gv0
  have o1 : w.heap[E.ob]? = some (.cells #[x0, x1, x2, x3, x4, x5] 28 (0, 0)) := by rw [← hx]; exact o1
  have hsz := put6_size w E.ob (.bool true) (.int .i64 a) (.int .i64 b) gv (.slice none 0 0) (.int .i64 0)
  have hT : Turn M M w (put6 w E.ob (.bool true) (.int .i64 a) (.int .i64 b) gv (.slice none 0 0) (.int .i64 0)) := ⟨Nat.le_of_eq hsz.symm, fun k _ hn => put6_other (fun (e : E.ob = k) => hn (by rw [← e]; exact hmo)) _ _ _ _ _ _, fun k hk => Or.inl hk⟩
  refine ⟨⟨?_, ?_, ⟨gv, put6_at o1 _ _ _ _ _ _, hgv.kept hT, o3⟩, put6_grew h.grew (h.low _ hmo) _ _ _ _ _ _, h.may, h.low, fun k hk => by rw [hsz]; exact h.lt k hk, h.ne1, h.ne2, h.ne3, h.ne4⟩, hT⟩
  · rw [put6_other (Ne.symm h.ne1)]; exact h.look
  · have hne := h.ne3
    exact ownsRow_setCell_other (ownsRow_setCell_other (ownsRow_setCell_other (ownsRow_setCell_other (ownsRow_setCell_other (ownsRow_setCell_other h.said hne _) hne _) hne _) hne _) hne _) hne _
end
set_option maxRecDepth 100000 in
set_option maxHeartbeats 4000000 in
theorem mat_clo {E : Env} {fb a : Nat} {w0 : World} {M0 : Nat → Prop} {lo d a0 : Nat} (hc : w0.cell? ⟨fb, 0, none⟩ = some (.int .i64 a)) (hsf : Safe M0 w0 fb) :
    ThenOk E (OM E) M0 w0 lo d a0 19 #[.pointer (some ⟨fb, 0, none⟩), .pointer (some ⟨E.ob, 0, none⟩)] (Km a) := by
  refine ⟨enters_of Tryd.func19 (by kernel_rfl) rfl, Km_okay a, fun w M e gv h s t hs hg ha h0 h1 h2 hw h3 h4 => ?_⟩
  obtain ⟨sv, ov, hl⟩ := hs
  have hfc := t.cell hc hsf.2
  obtain ⟨hst, hT⟩ := hl.found (a := a) (b := e) hg
  obtain ⟨gv0, o1, o2, o3⟩ := hl.out
  obtain ⟨x0, x1, x2, x3, x4, x5, hx⟩ := mCells_six s.out gv0
  have o1 : w.heap[E.ob]? = some (.cells #[x0, x1, x2, x3, x4, x5] 28 (0, 0)) := by rw [← hx]; exact o1
  have r0 : w.cell? ⟨E.ob, 0, none⟩ = some x0 := by simp [World.cell?, o1]
  have r1 : w.cell? ⟨E.ob, 1, none⟩ = some x1 := by simp [World.cell?, o1]
  have r2 : w.cell? ⟨E.ob, 2, none⟩ = some x2 := by simp [World.cell?, o1]
  have r3 : w.cell? ⟨E.ob, 3, none⟩ = some x3 := by simp [World.cell?, o1]
  have r4 : w.cell? ⟨E.ob, 4, none⟩ = some x4 := by simp [World.cell?, o1]
  have r5 : w.cell? ⟨E.ob, 5, none⟩ = some x5 := by simp [World.cell?, o1]
  have fz : ∀ i, w.frozen? ⟨E.ob, i, none⟩ = false := fun i => by simp [World.frozen?, o1]
  obtain ⟨gp, gc, hge, _⟩ := hg.1.len
  show Calls Tryd.prog 19 #[.int .i64 e, gv, .pointer (some ⟨fb, 0, none⟩), .pointer (some ⟨E.ob, 0, none⟩)] w fun r w' => r = .returned (.int .i64 1) ∧ ∃ M', Turn M M' w w' ∧ St E (OM E) w' M' { s with out := some (a, e, h), ways := s.ways + 1 }
  subst hge
  have HX : Hid (∃ M', Turn M M' w (put6 w E.ob (.bool true) (.int .i64 a) (.int .i64 e) (.slice gp h.length gc) (.slice none 0 0) (.int .i64 0)) ∧ St E (OM E) (put6 w E.ob (.bool true) (.int .i64 a) (.int .i64 e) (.slice gp h.length gc) (.slice none 0 0) (.int .i64 0)) M' { s with out := some (a, e, h), ways := s.ways + 1 }) := ⟨M, hT, _, _, hst⟩
  clear hst hT hl t hc hsf hg ha h0 h1 h2 hw h3 h4 o1 o2 o3 hx
  go_enter Tryd.func19, Tryd.ntmps19
  go_wp2_with fail
  go_ret
  exact ⟨rfl, HX.out⟩
end Go.Proofs.YtcmdhgamlhnioaaDoor
