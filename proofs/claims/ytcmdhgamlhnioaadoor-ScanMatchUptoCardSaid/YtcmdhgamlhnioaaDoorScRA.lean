/- The document's Try: out of fuel; kinds that end at once. -/
import Derived.Test.YtcmdhgamlhnioaaDoorScRM
import Derived.Deep.DeepCutAuto
namespace Go.Proofs.YtcmdhgamlhnioaaDoor
open Go.RowKit
set_option linter.unusedVariables false
theorem cell_of_heap {w : World} {b i : Nat} {cs : Array Value} {t : TypeId} {v : Value} (h : w.heap[b]? = some (.cells cs t (0, 0))) (e : cs[i]? = some v) : w.cell? ⟨b, i, none⟩ = some v := by
  unfold World.cell?
  rw [h]
  exact e
/-- Where Try has put its own. -/
structure Boxed (lb : Nat) (M : Nat → Prop) (W : World) (b : Nat) (p : Pat) (kv : Value) (a : Nat) (fv : Value) : Prop where
  c5 : W.cell? ⟨b, 0, none⟩ = some (.pointer (some ⟨lb, 0, none⟩))
  pat : W.heap[b + 1]? = some (.cells (p.cells kv) 25 (0, 0))
  c7 : W.cell? ⟨b + 1 + 1, 0, none⟩ = some (.int .i64 a)
  c9 : W.cell? ⟨b + 1 + 1 + 1, 0, none⟩ = some fv
  safe : ∀ k, b ≤ k → k < b + 4 → Safe M W k
theorem Boxed.kept {lb : Nat} {M M' : Nat → Prop} {W W' : World} {b : Nat} {p : Pat} {kv : Value} {a : Nat} {fv : Value} (h : Boxed lb M W b p kv a fv) (t : Turn M M' W W') : Boxed lb M' W' b p kv a fv :=
  ⟨t.cell h.c5 (h.safe b (by omega) (by omega)).2, t.heap h.pat (h.safe _ (by omega) (by omega)).2, t.cell h.c7 (h.safe _ (by show b ≤ b + 1 + 1; omega) (by show b + 1 + 1 < b + 4; omega)).2, t.cell h.c9 (h.safe _ (by show b ≤ b + 1 + 1 + 1; omega) (by show b + 1 + 1 + 1 < b + 4; omega)).2, fun k h1 h2 => (h.safe k h1 h2).kept t⟩
theorem Boxed.fields {lb : Nat} {M : Nat → Prop} {W : World} {b : Nat} {p : Pat} {kv : Value} {a : Nat} {fv : Value} (h : Boxed lb M W b p kv a fv) : W.cell? ⟨b + 1, 0, none⟩ = some (.int .i64 p.kind) ∧ W.cell? ⟨b + 1, 1, none⟩ = some (.string p.text) ∧ W.cell? ⟨b + 1, 2, none⟩ = some (.int .i64 p.n) ∧ W.cell? ⟨b + 1, 3, none⟩ = some (.string p.name) ∧ W.cell? ⟨b + 1, 4, none⟩ = some kv := by
  have := h.pat
  refine ⟨?_, ?_, ?_, ?_, ?_⟩ <;> simp [World.cell?, this, Pat.cells]
section
variable {γ : Type} {E : Env} {O : OutP γ} {w : World} {M : Nat → Prop} {s : LS γ}
theorem boxed (hlt : ∀ k, M k → k < w.heap.size) (p : Pat) (kv : Value) (a : Nat) (fv : Value) : Boxed E.lb M ((((w.alloc (.cells #[.pointer (some ⟨E.lb, 0, none⟩)] 51)).alloc (.cells (p.cells kv) 25)).alloc (.cells #[.int .i64 a] 3)).alloc (.cells #[fv] 81)) w.heap.size p kv a fv := by
  have g1 := (Grew.refl (w.alloc (.cells #[.pointer (some ⟨E.lb, 0, none⟩)] 51)))
  refine ⟨?_, ?_, ?_, ?_, fun k h1 h2 => ⟨by simp; omega, fun h => by have := hlt k h; omega⟩⟩
  · have : (w.alloc (.cells #[.pointer (some ⟨E.lb, 0, none⟩)] 51)).cell? ⟨w.heap.size, 0, none⟩ = some (.pointer (some ⟨E.lb, 0, none⟩)) := cell_of_heap (heap_alloc_new _ _) rfl
    exact (((g1.alloc _).alloc _).alloc _).keeps this
  · have : ((w.alloc (.cells #[.pointer (some ⟨E.lb, 0, none⟩)] 51)).alloc (.cells (p.cells kv) 25)).heap[w.heap.size + 1]? = some (.cells (p.cells kv) 25 (0, 0)) := by
      have := heap_alloc_new (w.alloc (.cells #[.pointer (some ⟨E.lb, 0, none⟩)] 51)) (.cells (p.cells kv) 25 (0, 0))
      rwa [World.size_alloc] at this
    rw [heap_alloc_old _ _ (by simp), heap_alloc_old _ _ (by simp)]; exact this
  · have : (((w.alloc (.cells #[.pointer (some ⟨E.lb, 0, none⟩)] 51)).alloc (.cells (p.cells kv) 25)).alloc (.cells #[.int .i64 a] 3)).cell? ⟨w.heap.size + 1 + 1, 0, none⟩ = some (.int .i64 a) := by
      have := heap_alloc_new ((w.alloc (.cells #[.pointer (some ⟨E.lb, 0, none⟩)] 51)).alloc (.cells (p.cells kv) 25)) (.cells #[.int .i64 a] 3 (0, 0))
      rw [World.size_alloc, World.size_alloc] at this
      exact cell_of_heap this rfl
    exact ((Grew.refl _).alloc _).keeps this
  · have := heap_alloc_new (((w.alloc (.cells #[.pointer (some ⟨E.lb, 0, none⟩)] 51)).alloc (.cells (p.cells kv) 25)).alloc (.cells #[.int .i64 a] 3)) (.cells #[fv] 81 (0, 0))
    rw [World.size_alloc, World.size_alloc, World.size_alloc] at this
    exact cell_of_heap this rfl
set_option maxRecDepth 100000 in
set_option maxHeartbeats 2000000 in
theorem Try_out (hO : OutOk E O) (p : Pat) (kv : Value) (a : Nat) (gv : Value) (g : FuncId) (lb : Array Value) (hst : St E O w M s) (hk : -9223372036854775808 ≤ p.kind ∧ p.kind ≤ 9223372036854775807) (ht : ¬ s.ticks < E.fuel) :
    Calls Tryd.prog 18 #[.pointer (some ⟨E.lb, 0, none⟩), .agg (p.cells kv), .int .i64 a, gv, .func (.func g) #[] lb] w fun r w' => r = .returned (.int .i64 3) ∧ ∃ M', Turn M M' w w' ∧ St E O w' M' { s with err := 10 } := by
  obtain ⟨sv, ov, h⟩ := hst
  have HBx := hidd (boxed (E := E) h.lt p kv a (.func (.func g) #[] lb))
  have HGr : Hid (Grew w ((((w.alloc (.cells #[.pointer (some ⟨E.lb, 0, none⟩)] 51)).alloc (.cells (p.cells kv) 25)).alloc (.cells #[.int .i64 a] 3)).alloc (.cells #[.func (.func g) #[] lb] 81))) := ((((Grew.refl w).alloc _).alloc _).alloc _).alloc _
  have H := hidd h
  have hb : decide ((E.fuel : Int) ≤ (s.ticks : Int)) = true := decide_eq_true (by omega)
  have hb2 : decide (E.fuel ≤ s.ticks) = true := decide_eq_true (by omega)
  clear h
  unfold Pat.cells at *
  go_enter Tryd.func18, Tryd.ntmps18
  go_wp2_with fail
  generalize ((((w.alloc (.cells #[.pointer (some ⟨E.lb, 0, none⟩)] 51)).alloc (.cells #[.int .i64 p.kind, .string p.text, .int .i64 p.n, .string p.name, kv] 25)).alloc (.cells #[.int .i64 a] 3)).alloc (.cells #[.func (.func g) #[] lb] 81)) = W at HBx HGr ⊢
  have HW := hidd (H.out.grown hO HGr.out)
  have c5 := HBx.out.c5
  have c3 : W.cell? ⟨E.lb, 3, none⟩ = some (.int .i64 s.ticks) := HW.out.cell rfl
  have c2 : W.cell? ⟨E.lb, 2, none⟩ = some (.int .i64 E.fuel) := HW.out.cell rfl
  have c5l : W.cell? ⟨E.lb, 5, none⟩ = some (.int .i64 s.err) := HW.out.cell rfl
  have f5 := HW.out.free 5
  generalize w.heap.size = b at HBx c5 ⊢
  go_quiet (fail)
  go_wp2_with fail
  go_ret
  obtain ⟨h2, t2⟩ := (HW.out.grown hO ((Grew.refl W).drewN _)).put hO { s with err := 10 } 5 (.int .i64 10) rfl rfl rfl
  exact ⟨rfl, M, (Turn.of_grew (HGr.out.drewN _)).trans t2, _, _, h2⟩
theorem tick_st (hO : OutOk E O) {W : World} {sv ov : Value} (h : LkSt E O W M s sv ov) (n : Nat) : LkSt E O ((W.drewN n).setCell ⟨E.lb, 3, none⟩ (.int .i64 ((s.ticks : Int) + 1))) M { s with ticks := s.ticks + 1 } sv ov ∧ Turn M M W ((W.drewN n).setCell ⟨E.lb, 3, none⟩ (.int .i64 ((s.ticks : Int) + 1))) := by
  obtain ⟨h2, t2⟩ := (h.grown hO ((Grew.refl W).drewN n)).put hO { s with ticks := s.ticks + 1 } 3 (.int .i64 ((s.ticks : Int) + 1)) rfl rfl rfl
  exact ⟨h2, (Turn.of_grew ((Grew.refl W).drewN n)).trans t2⟩
set_option maxRecDepth 100000 in
set_option maxHeartbeats 2000000 in
theorem Try_fail (hO : OutOk E O) (p : Pat) (kv : Value) (a : Nat) (gv : Value) (g : FuncId) (lb : Array Value) (hst : St E O w M s) (hk : p.kind = 15) (ht : s.ticks < E.fuel) (hf : E.fuel ≤ 100000) :
    Calls Tryd.prog 18 #[.pointer (some ⟨E.lb, 0, none⟩), .agg (p.cells kv), .int .i64 a, gv, .func (.func g) #[] lb] w fun r w' => r = .returned (.int .i64 0) ∧ ∃ M', Turn M M' w w' ∧ St E O w' M' { s with ticks := s.ticks + 1 } := by
  obtain ⟨sv, ov, h⟩ := hst
  have HBx := hidd (boxed (E := E) h.lt p (kv) a (.func (.func g) #[] lb))
  have HGr : Hid (Grew w ((((w.alloc (.cells #[.pointer (some ⟨E.lb, 0, none⟩)] 51)).alloc (.cells (p.cells (kv)) 25)).alloc (.cells #[.int .i64 a] 3)).alloc (.cells #[.func (.func g) #[] lb] 81))) := ((((Grew.refl w).alloc _).alloc _).alloc _).alloc _
  have H := hidd h
  have hb : decide ((E.fuel : Int) ≤ (s.ticks : Int)) = false := decide_eq_false (by omega)
  have hb2 : decide (E.fuel ≤ s.ticks) = false := decide_eq_false (by omega)
  clear h
  unfold Pat.cells at HBx HGr ⊢
  rw [hk] at HBx HGr ⊢
  go_enter Tryd.func18, Tryd.ntmps18
  go_wp2_with fail
  generalize ((((w.alloc (.cells #[.pointer (some ⟨E.lb, 0, none⟩)] 51)).alloc (.cells #[.int .i64 15, .string p.text, .int .i64 p.n, .string p.name, kv] 25)).alloc (.cells #[.int .i64 a] 3)).alloc (.cells #[.func (.func g) #[] lb] 81)) = W at HBx HGr ⊢
  have HW := hidd (H.out.grown hO HGr.out)
  have c5 := HBx.out.c5
  have c3 : W.cell? ⟨E.lb, 3, none⟩ = some (.int .i64 s.ticks) := HW.out.cell rfl
  have c2 : W.cell? ⟨E.lb, 2, none⟩ = some (.int .i64 E.fuel) := HW.out.cell rfl
  have f3 := HW.out.free 3
  obtain ⟨b, hbb⟩ : ∃ b, w.heap.size = b := ⟨_, rfl⟩
  rw [hbb] at HBx c5 ⊢
  go_quiet (fail)
  have HT1 := tick_st hO HW.out nq
  go_upto_region 5 with fail
  clear c5 c3 c2 f3 hb hb2
  generalize ((W.drewN nq).setCell ⟨E.lb, 3, none⟩ (.int .i64 ((s.ticks : Int) + 1))) = W1 at HT1 ⊢
  have HS1 := hidd HT1.1
  have HTu := hidd ((Turn.of_grew (M := M) HGr.out).trans HT1.2)
  have HB1 := hidd (HBx.out.kept HT1.2)
  clear HT1 HBx HW HGr
  have c5 := HB1.out.c5
  obtain ⟨q0, q1, q2, q3, q4⟩ := HB1.out.fields
  rw [hk] at q0
  have c7 := HB1.out.c7
  have c9 := HB1.out.c9
  have c1 : W1.cell? ⟨E.lb, 1, none⟩ = some (.string E.S) := HS1.out.cell rfl
  go_wp2_with fail
  go_ret
  exact ⟨rfl, M, HTu.out, _, _, HS1.out⟩
set_option maxRecDepth 100000 in
set_option maxHeartbeats 2000000 in
theorem Try_abort (hO : OutOk E O) (p : Pat) (kv : Value) (a : Nat) (gv : Value) (g : FuncId) (lb : Array Value) (hst : St E O w M s) (hk : p.kind = 17) (ht : s.ticks < E.fuel) (hf : E.fuel ≤ 100000) :
    Calls Tryd.prog 18 #[.pointer (some ⟨E.lb, 0, none⟩), .agg (p.cells kv), .int .i64 a, gv, .func (.func g) #[] lb] w fun r w' => r = .returned (.int .i64 2) ∧ ∃ M', Turn M M' w w' ∧ St E O w' M' { s with ticks := s.ticks + 1 } := by
  obtain ⟨sv, ov, h⟩ := hst
  have HBx := hidd (boxed (E := E) h.lt p (kv) a (.func (.func g) #[] lb))
  have HGr : Hid (Grew w ((((w.alloc (.cells #[.pointer (some ⟨E.lb, 0, none⟩)] 51)).alloc (.cells (p.cells (kv)) 25)).alloc (.cells #[.int .i64 a] 3)).alloc (.cells #[.func (.func g) #[] lb] 81))) := ((((Grew.refl w).alloc _).alloc _).alloc _).alloc _
  have H := hidd h
  have hb : decide ((E.fuel : Int) ≤ (s.ticks : Int)) = false := decide_eq_false (by omega)
  have hb2 : decide (E.fuel ≤ s.ticks) = false := decide_eq_false (by omega)
  clear h
  unfold Pat.cells at HBx HGr ⊢
  rw [hk] at HBx HGr ⊢
  go_enter Tryd.func18, Tryd.ntmps18
  go_wp2_with fail
  generalize ((((w.alloc (.cells #[.pointer (some ⟨E.lb, 0, none⟩)] 51)).alloc (.cells #[.int .i64 17, .string p.text, .int .i64 p.n, .string p.name, kv] 25)).alloc (.cells #[.int .i64 a] 3)).alloc (.cells #[.func (.func g) #[] lb] 81)) = W at HBx HGr ⊢
  have HW := hidd (H.out.grown hO HGr.out)
  have c5 := HBx.out.c5
  have c3 : W.cell? ⟨E.lb, 3, none⟩ = some (.int .i64 s.ticks) := HW.out.cell rfl
  have c2 : W.cell? ⟨E.lb, 2, none⟩ = some (.int .i64 E.fuel) := HW.out.cell rfl
  have f3 := HW.out.free 3
  obtain ⟨b, hbb⟩ : ∃ b, w.heap.size = b := ⟨_, rfl⟩
  rw [hbb] at HBx c5 ⊢
  go_quiet (fail)
  have HT1 := tick_st hO HW.out nq
  go_upto_region 5 with fail
  clear c5 c3 c2 f3 hb hb2
  generalize ((W.drewN nq).setCell ⟨E.lb, 3, none⟩ (.int .i64 ((s.ticks : Int) + 1))) = W1 at HT1 ⊢
  have HS1 := hidd HT1.1
  have HTu := hidd ((Turn.of_grew (M := M) HGr.out).trans HT1.2)
  have HB1 := hidd (HBx.out.kept HT1.2)
  clear HT1 HBx HW HGr
  have c5 := HB1.out.c5
  obtain ⟨q0, q1, q2, q3, q4⟩ := HB1.out.fields
  rw [hk] at q0
  have c7 := HB1.out.c7
  have c9 := HB1.out.c9
  have c1 : W1.cell? ⟨E.lb, 1, none⟩ = some (.string E.S) := HS1.out.cell rfl
  go_wp2_with fail
  go_ret
  exact ⟨rfl, M, HTu.out, _, _, HS1.out⟩
set_option maxRecDepth 100000 in
set_option maxHeartbeats 2000000 in
theorem Try_fence (hO : OutOk E O) (p : Pat) (kv : Value) (a : Nat) (gv : Value) (gl : List Gift) (d : Nat) (g : FuncId) (lb : Array Value) (K : Cont γ) (hst : St E O w M s) (hk : p.kind = 16) (ht : s.ticks < E.fuel) (hf : E.fuel ≤ 100000)
    (hg : GV w M gv gl) (ha : a ≤ E.S.size) (hw : s.ways ≤ E.V) (hd : gl.length + d ≤ s.ticks) (hsd : s.said.length ≤ 300000 * (s.ticks + s.ways)) (hK : ThenOk E O M w (s.ticks + 1) d a g lb K) :
    Calls Tryd.prog 18 #[.pointer (some ⟨E.lb, 0, none⟩), .agg (p.cells kv), .int .i64 a, gv, .func (.func g) #[] lb] w fun r w' => r = .returned (.int .i64 ((thenK (K a gl { s with ticks := s.ticks + 1 }) (fun s => (2, s))).1 : Nat)) ∧ ∃ M', Turn M M' w w' ∧ St E O w' M' (thenK (K a gl { s with ticks := s.ticks + 1 }) (fun s => (2, s))).2 := by
  have eg := hK.enters
  obtain ⟨kr, hkr⟩ : ∃ kr, K a gl { s with ticks := s.ticks + 1 } = kr := ⟨_, rfl⟩
  have HC : Hid (∀ W1, Turn M M w W1 → St E O W1 M { s with ticks := s.ticks + 1 } → Calls Tryd.prog g (#[.int .i64 a, gv] ++ lb) W1 fun r w' => r = .returned (.int .i64 (kr.1 : Nat)) ∧ ∃ M', Turn M M' W1 w' ∧ St E O w' M' kr.2) := fun W1 t1 h1 => by
    have := hK.calls W1 M a gv gl _ t1 h1 (hg.kept t1) ha (Nat.le_refl _) (Nat.le_refl _) ht hw (by simp only []; omega) (by simp only []; omega)
    rw [hkr] at this
    exact this
  rw [hkr]
  clear hkr hK hg hd hsd hw
  obtain ⟨sv, ov, h⟩ := hst
  have HBx := hidd (boxed (E := E) h.lt p (kv) a (.func (.func g) #[] lb))
  have HGr : Hid (Grew w ((((w.alloc (.cells #[.pointer (some ⟨E.lb, 0, none⟩)] 51)).alloc (.cells (p.cells (kv)) 25)).alloc (.cells #[.int .i64 a] 3)).alloc (.cells #[.func (.func g) #[] lb] 81))) := ((((Grew.refl w).alloc _).alloc _).alloc _).alloc _
  have H := hidd h
  have hb : decide ((E.fuel : Int) ≤ (s.ticks : Int)) = false := decide_eq_false (by omega)
  have hb2 : decide (E.fuel ≤ s.ticks) = false := decide_eq_false (by omega)
  clear h
  unfold Pat.cells at HBx HGr ⊢
  rw [hk] at HBx HGr ⊢
  go_enter Tryd.func18, Tryd.ntmps18
  go_wp2_with fail
  generalize ((((w.alloc (.cells #[.pointer (some ⟨E.lb, 0, none⟩)] 51)).alloc (.cells #[.int .i64 16, .string p.text, .int .i64 p.n, .string p.name, kv] 25)).alloc (.cells #[.int .i64 a] 3)).alloc (.cells #[.func (.func g) #[] lb] 81)) = W at HBx HGr ⊢
  have HW := hidd (H.out.grown hO HGr.out)
  have c5 := HBx.out.c5
  have c3 : W.cell? ⟨E.lb, 3, none⟩ = some (.int .i64 s.ticks) := HW.out.cell rfl
  have c2 : W.cell? ⟨E.lb, 2, none⟩ = some (.int .i64 E.fuel) := HW.out.cell rfl
  have f3 := HW.out.free 3
  obtain ⟨b, hbb⟩ : ∃ b, w.heap.size = b := ⟨_, rfl⟩
  rw [hbb] at HBx c5 ⊢
  go_quiet (fail)
  have HT1 := tick_st hO HW.out nq
  go_upto_region 5 with fail
  clear c5 c3 c2 f3 hb hb2
  generalize ((W.drewN nq).setCell ⟨E.lb, 3, none⟩ (.int .i64 ((s.ticks : Int) + 1))) = W1 at HT1 ⊢
  have HS1 := hidd HT1.1
  have HTu := hidd ((Turn.of_grew (M := M) HGr.out).trans HT1.2)
  have HB1 := hidd (HBx.out.kept HT1.2)
  clear HT1 HBx HW HGr
  have c5 := HB1.out.c5
  obtain ⟨q0, q1, q2, q3, q4⟩ := HB1.out.fields
  rw [hk] at q0
  have c7 := HB1.out.c7
  have c9 := HB1.out.c9
  have c1 : W1.cell? ⟨E.lb, 1, none⟩ = some (.string E.S) := HS1.out.cell rfl
  go_wp2_with fail
  refine (HC.out W1 HTu.out ⟨_, _, HS1.out⟩).mono ?_; rintro r W2 ⟨rfl, M2, t2, st2⟩
  have HE := hidd (And.intro (HTu.out.trans t2) st2)
  clear t2 st2
  obtain ⟨k1, k2⟩ := kr
  rcases Nat.eq_zero_or_pos k1 with rfl | hk1
  · go_wp2_with fail
    go_ret
    exact ⟨rfl, M2, HE.out.1, HE.out.2⟩
  · have e0 : ((k1 : Int) == 0) = false := by rw [beq_eq_false_iff_ne]; omega
    have HY : Hid (thenK (k1, k2) (fun s : LS γ => (2, s)) = (k1, k2)) := thenK_yes (by show k1 ≠ 0; omega)
    go_wp2_with fail
    go_ret
    rw [HY.out]
    exact ⟨rfl, M2, HE.out.1, HE.out.2⟩
end
end Go.Proofs.YtcmdhgamlhnioaaDoor
