/- The document's Try: places one behind the other. Printed. -/
import Derived.Test.YtcmdhgamlhnioaaDoorScRA
namespace Go.Proofs.YtcmdhgamlhnioaaDoor
open Go.RowKit
set_option linter.unusedVariables false
theorem St.text' {γ : Type} {E : Env} {O : OutP γ} {M : Nat → Prop} {s : LS γ} {w' : World} (h : St E O w' M s) : w'.cell? ⟨E.lb, 1, none⟩ = some (.string E.S) := by obtain ⟨sv, ov, h⟩ := h; exact h.cell rfl
/-- Some of the places have been handed on; these are left. -/
def Lf {γ : Type} (E : Env) (O : OutP γ) (M : Nat → Prop) (w : World) (lo d a : Nat) (gv : Value) (gl : List Gift) (g : FuncId) (lb : Array Value) (K : Cont γ) (b : Nat) (p : Pat) (kv : Value) (kr : Nat × LS γ) (wr : World) (rem : List Nat) : Prop :=
  ∃ Mr sr, Turn M Mr w wr ∧ St E O wr Mr sr ∧ Boxed E.lb Mr wr b p kv a (.func (.func g) #[] lb) ∧ runK E.fuel (wayL gl rem) K sr = kr ∧ lo ≤ sr.ticks ∧ sr.ticks ≤ E.fuel ∧ sr.ways ≤ E.V ∧
    ((Up E.S.size a rem ∧ sr.said.length + 300000 ≤ 300000 * (sr.ticks + sr.ways)) ∨ ((∀ x ∈ rem, x ≤ E.S.size ∧ a < x) ∧ sr.said.length + 200000 ≤ 300000 * (sr.ticks + sr.ways)))
section
variable {γ : Type} {E : Env} {O : OutP γ} {w : World} {M : Nat → Prop} {s : LS γ} {lo d a : Nat} {gv : Value} {gl : List Gift} {g : FuncId} {lb : Array Value} {K : Cont γ} {b : Nat} {p : Pat} {kv : Value} {kr : Nat × LS γ} {wr : World} {rem : List Nat}
theorem Lf.done (h : Lf E O M w lo d a gv gl g lb K b p kv kr wr []) : kr.1 = 0 ∧ ∃ M', Turn M M' w wr ∧ St E O wr M' kr.2 := by
  obtain ⟨Mr, sr, t, hs, _, hr, _⟩ := h
  rw [← hr]
  exact ⟨rfl, Mr, t, hs⟩
theorem Lf.boxes (h : Lf E O M w lo d a gv gl g lb K b p kv kr wr rem) : wr.cell? ⟨b, 0, none⟩ = some (.pointer (some ⟨E.lb, 0, none⟩)) ∧ wr.cell? ⟨b + 1, 1, none⟩ = some (.string p.text) ∧ wr.cell? ⟨b + 1 + 1, 0, none⟩ = some (.int .i64 a) ∧ wr.cell? ⟨b + 1 + 1 + 1, 0, none⟩ = some (.func (.func g) #[] lb) ∧ wr.cell? ⟨E.lb, 1, none⟩ = some (.string E.S) := by
  obtain ⟨Mr, sr, t, hs, hB, _⟩ := h
  exact ⟨hB.c5, hB.fields.2.1, hB.c7, hB.c9, hs.text'⟩
theorem Lf.grown (hO : OutOk E O) (h : Lf E O M w lo d a gv gl g lb K b p kv kr wr rem) {w2 : World} (g2 : Grew wr w2) : Lf E O M w lo d a gv gl g lb K b p kv kr w2 rem := by
  obtain ⟨Mr, sr, t, ⟨sv, ov, hs⟩, hB, r⟩ := h
  exact ⟨Mr, sr, t.trans (Turn.of_grew g2), ⟨sv, ov, hs.grown hO g2⟩, hB.kept (Turn.of_grew g2), r⟩
theorem Lf.call (h5 : E.fuel ≤ 100000) (hK : ThenOk E O M w lo d a g lb K) (hg : GV w M gv gl) (hd : gl.length + d ≤ lo) {e : Nat} {rest : List Nat} (h : Lf E O M w lo d a gv gl g lb K b p kv kr wr (e :: rest)) :
    Calls Tryd.prog g (#[.int .i64 e, gv] ++ lb) wr fun r w' => ∃ k : Nat, r = .returned (.int .i64 k) ∧ ((k = 0 ∧ Lf E O M w lo d a gv gl g lb K b p kv kr w' rest) ∨ (k ≠ 0 ∧ kr.1 = k ∧ ∃ M', Turn M M' w w' ∧ St E O w' M' kr.2)) := by
  obtain ⟨Mr, sr, t, hs, hB, hr, h1, h2, h3, hp⟩ := h
  have hee : e ≤ E.S.size ∧ a ≤ e ∧ sr.said.length + 200000 ≤ 300000 * (sr.ticks + sr.ways) ∧ ∀ x ∈ rest, x ≤ E.S.size ∧ a < x := by
    rcases hp with ⟨hu, hc⟩ | ⟨hu, hc⟩
    · rcases hu with e0 | ⟨e', r', e0, k1, k2, k3⟩
      · cases e0
      · cases e0; exact ⟨k2, k1, by omega, k3⟩
    · exact ⟨(hu e (by simp)).1, Nat.le_of_lt (hu e (by simp)).2, hc, fun x hx => hu x (by simp [hx])⟩
  obtain ⟨he1, he2, he3, he4⟩ := hee
  refine (hK.calls wr Mr e gv gl sr t hs (hg.kept t) he1 he2 h1 h2 h3 (by omega) (by omega)).mono ?_
  rintro r w' ⟨rfl, M2, t2, s2⟩
  refine ⟨_, rfl, ?_⟩
  rw [wayL, runK_way] at hr
  by_cases h0 : (K e gl sr).1 = 0
  · rw [thenK_no h0] at hr
    have ho := hK.okay.half (g := gl) he1 he2 h1 h2 h3 (by omega)
    refine Or.inl ⟨h0, M2, _, t.trans t2, s2, hB.kept t2, hr, Nat.le_trans h1 ho.ticks, ho.fuel, ho.stay h0, Or.inr ⟨he4, ?_⟩⟩
    rcases hp with ⟨hu, hc⟩ | ⟨hu, hc⟩
    · have := ho.cost; omega
    · have := (hK.okay.full (g := gl) he1 (hu e (by simp)).2 h1 h2 h3 (by omega)).back rfl (by omega); omega
  · rw [thenK_yes h0] at hr
    subst hr
    exact Or.inr ⟨h0, rfl, M2, t.trans t2, s2⟩
set_option maxRecDepth 100000 in
set_option maxHeartbeats 2000000 in
theorem Try_arb (hO : OutOk E O) (p : Pat) (kv : Value) (a : Nat) (gv : Value) (gl : List Gift) (d : Nat) (g : FuncId) (lb : Array Value) (K : Cont γ) (hst : St E O w M s) (hk : p.kind = 13) (ht : s.ticks < E.fuel) (hf : E.fuel ≤ 100000) (hL : E.S.size ≤ 65536)
    (hg : GV w M gv gl) (ha : a ≤ E.S.size) (hw : s.ways ≤ E.V) (hd : gl.length + d ≤ s.ticks) (hsd : s.said.length ≤ 300000 * (s.ticks + s.ways)) (hK : ThenOk E O M w (s.ticks + 1) d a g lb K) :
    Calls Tryd.prog 18 #[.pointer (some ⟨E.lb, 0, none⟩), .agg (p.cells kv), .int .i64 a, gv, .func (.func g) #[] lb] w fun r w' => r = .returned (.int .i64 ((runK E.fuel (wayL gl (mores E.S.size a)) K { s with ticks := s.ticks + 1 }).1 : Nat)) ∧ ∃ M', Turn M M' w w' ∧ St E O w' M' (runK E.fuel (wayL gl (mores E.S.size a)) K { s with ticks := s.ticks + 1 }).2 := by
  have eg := hK.enters
  obtain ⟨gp, gc, rfl, _⟩ := hg.1.len
  obtain ⟨kr, hkr⟩ : ∃ kr, runK E.fuel (wayL gl (mores E.S.size a)) K { s with ticks := s.ticks + 1 } = kr := ⟨_, rfl⟩
  rw [hkr]
  have HL0 : Hid (∀ W1 b, Turn M M w W1 → St E O W1 M { s with ticks := s.ticks + 1 } → Boxed E.lb M W1 b p kv a (.func (.func g) #[] lb) → Lf E O M w (s.ticks + 1) d a (.slice gp gl.length gc) gl g lb K b p kv kr W1 (List.range' a (E.S.size - a + 1))) := fun W1 b t1 h1 hB => ⟨M, _, t1, h1, hB, hkr, Nat.le_refl _, ht, hw, Or.inl ⟨mores_up ha, by simp only []; omega⟩⟩
  have HCall : Hid (∀ (wr : World) (b e : Nat) (rest : List Nat), Lf E O M w (s.ticks + 1) d a (.slice gp gl.length gc) gl g lb K b p kv kr wr (e :: rest) → Calls Tryd.prog g (#[.int .i64 e, .slice gp gl.length gc] ++ lb) wr fun r w' => ∃ k : Nat, r = .returned (.int .i64 k) ∧ ((k = 0 ∧ Lf E O M w (s.ticks + 1) d a (.slice gp gl.length gc) gl g lb K b p kv kr w' rest) ∨ (k ≠ 0 ∧ kr.1 = k ∧ ∃ M', Turn M M' w w' ∧ St E O w' M' kr.2))) := fun wr b e rest h => h.call hf hK hg (by omega)
  have HA := hidd ha
  clear hkr hK hg hd hsd hw ha
  obtain ⟨sv, ov, h⟩ := hst
  have HBx := hidd (boxed (E := E) h.lt p (kv) a (.func (.func g) #[] lb))
  have HGr : Hid (Grew w ((((w.alloc (.cells #[.pointer (some ⟨E.lb, 0, none⟩)] 51)).alloc (.cells (p.cells (kv)) 25)).alloc (.cells #[.int .i64 a] 3)).alloc (.cells #[.func (.func g) #[] lb] 81))) := ((((Grew.refl w).alloc _).alloc _).alloc _).alloc _
  have H := hidd h
  have hb : decide ((E.fuel : Int) ≤ (s.ticks : Int)) = false := decide_eq_false (by omega)
  have hb2 : decide (E.fuel ≤ s.ticks) = false := decide_eq_false (by omega)
  clear h
  unfold Pat.cells at HBx HGr ⊢
  rw [hk] at HBx HGr ⊢
  go_enter Tryd.func18, Tryd.ntmps18
  go_wp2_with fail
  generalize ((((w.alloc (.cells #[.pointer (some ⟨E.lb, 0, none⟩)] 51)).alloc (.cells #[.int .i64 13, .string p.text, .int .i64 p.n, .string p.name, kv] 25)).alloc (.cells #[.int .i64 a] 3)).alloc (.cells #[.func (.func g) #[] lb] 81)) = W at HBx HGr ⊢
  have HW := hidd (H.out.grown hO HGr.out)
  have c5 := HBx.out.c5
  have c3 : W.cell? ⟨E.lb, 3, none⟩ = some (.int .i64 s.ticks) := HW.out.cell rfl
  have c2 : W.cell? ⟨E.lb, 2, none⟩ = some (.int .i64 E.fuel) := HW.out.cell rfl
  have f3 := HW.out.free 3
  obtain ⟨b, hbb⟩ : ∃ b, w.heap.size = b := ⟨_, rfl⟩
  rw [hbb] at HBx c5 ⊢
  go_quiet (fail)
  have HT1 := tick_st hO HW.out nq
  go_upto_region 5 with fail
  clear c5 c3 c2 f3 hb hb2
  generalize ((W.drewN nq).setCell ⟨E.lb, 3, none⟩ (.int .i64 ((s.ticks : Int) + 1))) = W1 at HT1 ⊢
  have HS1 := hidd HT1.1
  have HTu := hidd ((Turn.of_grew (M := M) HGr.out).trans HT1.2)
  have HB1 := hidd (HBx.out.kept HT1.2)
  clear HT1 HBx HW HGr
  have c5 := HB1.out.c5
  obtain ⟨q0, q1, q2, q3, q4⟩ := HB1.out.fields
  rw [hk] at q0
  have c7 := HB1.out.c7
  have c9 := HB1.out.c9
  have c1 : W1.cell? ⟨E.lb, 1, none⟩ = some (.string E.S) := HS1.out.cell rfl
  have HLf := hidd (HL0.out W1 b HTu.out ⟨_, _, HS1.out⟩ HB1.out)
  clear HL0
  go_wp2_with fail
  go_loopw [14, 15] (fun u14 u15 wr => ∃ e : Nat, u14 = .int .i64 e ∧ e ≤ E.S.size + 1 ∧ Hid (Lf E O M w (s.ticks + 1) d a (.slice gp gl.length gc) gl g lb K b p kv kr wr (List.range' e (E.S.size + 1 - e)))) (fun u14 _ _ => E.S.size + 1 - (intOf u14).toNat)
  case atStart => exact ⟨a, rfl, by have := HA.out; omega, by rw [show E.S.size + 1 - a = E.S.size - a + 1 by have := HA.out; omega]; exact HLf.out⟩
  case round =>
    obtain ⟨e, rfl, he, HR⟩ := hrel
    clear HLf c5 c7 c9 c1 q0 q1 q2 q3 q4
    obtain ⟨c5, q1, c7, c9, c1⟩ := HR.out.boxes
    by_cases hlt : e ≤ E.S.size
    · have d1 : decide ((e : Int) ≤ (E.S.size : Int)) = true := decide_eq_true (by omega)
      have d2 : decide (e ≤ E.S.size) = true := decide_eq_true hlt
      have hw1 : wrap64 ((e : Int) + 1) = ((e + 1 : Nat) : Int) := by unfold wrap64; omega
      have HR2 := HR.out
      rw [show E.S.size + 1 - e = (E.S.size + 1 - (e + 1)) + 1 by omega, List.range'_succ] at HR2
      have HC2 := hidd (HCall.out wr b e _ HR2)
      clear HR2
      go_wp2_with fail
      refine HC2.out.mono ?_; rintro r W2 ⟨k, rfl, ⟨rfl, hl⟩ | ⟨hk0, hke, hx⟩⟩
      · have HL2 := hidd hl
        clear hl
        go_wp2_with fail
        go_roundw
        case rel => exact ⟨e + 1, by go_num, by omega, HL2.out⟩
        case measure => simp [intOf]; omega
      · have e0 : ((k : Int) == 0) = false := by rw [beq_eq_false_iff_ne]; omega
        have HX := hidd (And.intro hke hx)
        clear hke hx hk0
        go_wp2_with fail
        go_ret
        exact ⟨by rw [HX.out.1]; rfl, HX.out.2⟩
    · have d1 : decide ((e : Int) ≤ (E.S.size : Int)) = false := decide_eq_false (by omega)
      have d2 : decide (e ≤ E.S.size) = false := decide_eq_false hlt
      obtain rfl : e = E.S.size + 1 := by omega
      have HR2 := HR.out
      rw [Nat.sub_self] at HR2
      have HX := hidd HR2.done
      clear HR2
      go_wp2_with fail
      go_ret
      exact ⟨by rw [HX.out.1]; rfl, HX.out.2⟩
end
end Go.Proofs.YtcmdhgamlhnioaaDoor
