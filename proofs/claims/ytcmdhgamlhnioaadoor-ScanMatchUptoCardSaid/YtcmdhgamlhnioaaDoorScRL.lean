/- The document's Try: pieces one behind the other, any number of times, gifts. Printed. -/
import Derived.Test.YtcmdhgamlhnioaaDoorScRE
namespace Go.Proofs.YtcmdhgamlhnioaaDoor
open Go.RowKit
set_option linter.unusedVariables false
section
variable {γ : Type} {E : Env} {O : OutP γ} {w : World} {M : Nat → Prop} {s : LS γ}
set_option maxRecDepth 100000 in
set_option maxHeartbeats 2000000 in
theorem Try_cat (hO : OutOk E O) (p : Pat) (kv : Value) (a : Nat) (gv : Value) (gl : List Gift) (d : Nat) (g : FuncId) (lb : Array Value) (K : Cont γ) (hst : St E O w M s) (hk : p.kind = 18) (ht : s.ticks < E.fuel) (hf : E.fuel ≤ 100000) {R : List Rule} {n : Nat} (hE : EachSpec E O R n p.kids) (hp : PatV E.w0 kv p) (he : ∀ q ∈ p.kids, errW q = 0) (hn : E.fuel ≤ s.ticks + 1 + n)
    (hg : GV w M gv gl) (ha : a ≤ E.S.size) (hw : s.ways ≤ E.V) (hd : gl.length + d ≤ s.ticks) (hsd : s.said.length ≤ 300000 * (s.ticks + s.ways)) (hK : ThenOk E O M w (s.ticks + 1) d a g lb K) :
    Calls Tryd.prog 18 #[.pointer (some ⟨E.lb, 0, none⟩), .agg (p.cells kv), .int .i64 a, gv, .func (.func g) #[] lb] w fun r w' => r = .returned (.int .i64 ((runK E.fuel (cats (den R E.S (n + 1)) p.kids a gl) K { s with ticks := s.ticks + 1 }).1 : Nat)) ∧ ∃ M', Turn M M' w w' ∧ St E O w' M' (runK E.fuel (cats (den R E.S (n + 1)) p.kids a gl) K { s with ticks := s.ticks + 1 }).2 := by
  obtain ⟨ka, kc, rfl, _⟩ := hp.kids.len
  obtain ⟨gp, gc, rfl, _⟩ := hg.1.len
  have HC : Hid (∀ W1, Turn M M w W1 → St E O W1 M { s with ticks := s.ticks + 1 } → Calls Tryd.prog 34 #[.pointer (some ⟨E.lb, 0, none⟩), .slice ka p.kids.length kc, .int .i64 a, .slice gp gl.length gc, .func (.func g) #[] lb] W1 fun r w' => r = .returned (.int .i64 ((runK E.fuel (cats (den R E.S (n + 1)) p.kids a gl) K { s with ticks := s.ticks + 1 }).1 : Nat)) ∧ ∃ M', Turn M M' W1 w' ∧ St E O w' M' (runK E.fuel (cats (den R E.S (n + 1)) p.kids a gl) K { s with ticks := s.ticks + 1 }).2) := fun W1 t1 h1 =>
    hE W1 M _ _ a _ gl d g lb K h1 hp.kids he (hg.kept t1) ha ht hn hw (by simp only []; omega) (by simp only []; omega) (hK.later t1 (Nat.le_refl _) (Nat.le_refl _))
  obtain ⟨kr, hkr⟩ : ∃ kr, runK E.fuel (cats (den R E.S (n + 1)) p.kids a gl) K { s with ticks := s.ticks + 1 } = kr := ⟨_, rfl⟩
  rw [hkr] at HC ⊢
  clear hkr hK hg hd hsd hw hE hp he hn ha
  obtain ⟨sv, ov, h⟩ := hst
  have HBx := hidd (boxed (E := E) h.lt p (.slice ka p.kids.length kc) a (.func (.func g) #[] lb))
  have HGr : Hid (Grew w ((((w.alloc (.cells #[.pointer (some ⟨E.lb, 0, none⟩)] 51)).alloc (.cells (p.cells (.slice ka p.kids.length kc)) 25)).alloc (.cells #[.int .i64 a] 3)).alloc (.cells #[.func (.func g) #[] lb] 81))) := ((((Grew.refl w).alloc _).alloc _).alloc _).alloc _
  have H := hidd h
  have hb : decide ((E.fuel : Int) ≤ (s.ticks : Int)) = false := decide_eq_false (by omega)
  have hb2 : decide (E.fuel ≤ s.ticks) = false := decide_eq_false (by omega)
  clear h
  unfold Pat.cells at HBx HGr ⊢
  rw [hk] at HBx HGr ⊢
  go_enter Tryd.func18, Tryd.ntmps18
  go_wp2_with fail
  generalize ((((w.alloc (.cells #[.pointer (some ⟨E.lb, 0, none⟩)] 51)).alloc (.cells #[.int .i64 18, .string p.text, .int .i64 p.n, .string p.name, .slice ka p.kids.length kc] 25)).alloc (.cells #[.int .i64 a] 3)).alloc (.cells #[.func (.func g) #[] lb] 81)) = W at HBx HGr ⊢
  have HW := hidd (H.out.grown hO HGr.out)
  have c5 := HBx.out.c5
  have c3 : W.cell? ⟨E.lb, 3, none⟩ = some (.int .i64 s.ticks) := HW.out.cell rfl
  have c2 : W.cell? ⟨E.lb, 2, none⟩ = some (.int .i64 E.fuel) := HW.out.cell rfl
  have f3 := HW.out.free 3
  obtain ⟨b, hbb⟩ : ∃ b, w.heap.size = b := ⟨_, rfl⟩
  rw [hbb] at HBx c5 ⊢
  go_quiet (fail)
  have HT1 := tick_st hO HW.out nq
  go_upto_region 5 with fail
  clear c5 c3 c2 f3 hb hb2
  generalize ((W.drewN nq).setCell ⟨E.lb, 3, none⟩ (.int .i64 ((s.ticks : Int) + 1))) = W1 at HT1 ⊢
  have HS1 := hidd HT1.1
  have HTu := hidd ((Turn.of_grew (M := M) HGr.out).trans HT1.2)
  have HB1 := hidd (HBx.out.kept HT1.2)
  clear HT1 HBx HW HGr
  have c5 := HB1.out.c5
  obtain ⟨q0, q1, q2, q3, q4⟩ := HB1.out.fields
  rw [hk] at q0
  have c7 := HB1.out.c7
  have c9 := HB1.out.c9
  have c1 : W1.cell? ⟨E.lb, 1, none⟩ = some (.string E.S) := HS1.out.cell rfl
  go_wp2_with fail
  refine (HC.out W1 HTu.out ⟨_, _, HS1.out⟩).mono ?_; rintro r W2 ⟨rfl, M2, t2, st2⟩
  have HE := hidd (And.intro (HTu.out.trans t2) st2)
  clear t2 st2
  go_wp2_with fail
  go_ret
  exact ⟨rfl, M2, HE.out.1, HE.out.2⟩
theorem St.grew {w' : World} (h : St E O w' M s) : Grew E.w0 w' := by obtain ⟨sv, ov, h⟩ := h; exact h.grew
theorem one_kid {w : World} {kv : Value} {p : Pat} (hp : PatV w kv p) (h1 : p.kids.length = 1) : ∃ q kb ko c kq, p.kids = [q] ∧ kv = .slice (some ⟨kb, ko, none⟩) 1 c ∧ NodeAt w kb ko q kq ∧ PatV w kq q := by
  obtain ⟨q, hq⟩ : ∃ q, p.kids = [q] := by
    match hh : p.kids, h1 with
    | [q], _ => exact ⟨q, rfl⟩
  have hk := hp.kids
  rw [hq] at hk
  rcases hk with ⟨_, _, _, e⟩ | ⟨b, o, c, e, h0, h2, h3, h4⟩
  · cases e
  · have h5 := h4 0 (by simp)
    simp at h5
    obtain ⟨kq, hn, hv⟩ := h5.value
    exact ⟨q, b, o, c, kq, hq, e, hn, hv⟩
set_option maxRecDepth 100000 in
set_option maxHeartbeats 2000000 in
theorem Try_arbno (hO : OutOk E O) (p : Pat) (kv : Value) (a : Nat) (gv : Value) (gl : List Gift) (d : Nat) (g : FuncId) (lb : Array Value) (K : Cont γ) (hst : St E O w M s) (hk : p.kind = 20) (ht : s.ticks < E.fuel) (hf : E.fuel ≤ 100000) {R : List Rule} {n c : Nat} (hE : ∀ q, AgainSpec E O R n c q) (hp : PatV E.w0 kv p) (he : errW (p.kid 0) = 0) (h1 : p.kids.length = 1) (hn : E.fuel ≤ s.ticks + 1 + n) (hc : E.fuel < s.ticks + 1 + c)
    (hg : GV w M gv gl) (ha : a ≤ E.S.size) (hw : s.ways ≤ E.V) (hd : gl.length + d ≤ s.ticks) (hsd : s.said.length ≤ 300000 * (s.ticks + s.ways)) (hK : ThenOk E O M w (s.ticks + 1) d a g lb K) :
    Calls Tryd.prog 18 #[.pointer (some ⟨E.lb, 0, none⟩), .agg (p.cells kv), .int .i64 a, gv, .func (.func g) #[] lb] w fun r w' => r = .returned (.int .i64 ((runK E.fuel (Tr.seq (Tr.one a gl) (star (den R E.S (n + 1) (p.kid 0)) c a gl)) K { s with ticks := s.ticks + 1 }).1 : Nat)) ∧ ∃ M', Turn M M' w w' ∧ St E O w' M' (runK E.fuel (Tr.seq (Tr.one a gl) (star (den R E.S (n + 1) (p.kid 0)) c a gl)) K { s with ticks := s.ticks + 1 }).2 := by
  obtain ⟨q, kb, ko, kc, kq, hq, rfl, hnode, hpq⟩ := one_kid hp h1
  have hq0 : p.kid 0 = q := by rw [Pat.kid_eq, hq]; rfl
  rw [hq0] at he ⊢
  obtain ⟨gp, gc, rfl, _⟩ := hg.1.len
  rw [runK_seq, runK_one]
  have HC : Hid (∀ W1, Turn M M w W1 → St E O W1 M { s with ticks := s.ticks + 1 } → Calls Tryd.prog 35 #[.pointer (some ⟨E.lb, 0, none⟩), .agg (q.cells kq), .int .i64 a, .slice gp gl.length gc, .func (.func g) #[] lb] W1 fun r w' => r = .returned (.int .i64 ((thenK (K a gl { s with ticks := s.ticks + 1 }) (runK E.fuel (star (den R E.S (n + 1) q) c a gl) K)).1 : Nat)) ∧ ∃ M', Turn M M' W1 w' ∧ St E O w' M' (thenK (K a gl { s with ticks := s.ticks + 1 }) (runK E.fuel (star (den R E.S (n + 1) q) c a gl) K)).2) := fun W1 t1 h1 =>
    hE q W1 M _ _ a _ gl d g lb K h1 hpq he (hg.kept t1) ha ht hn hc hw (by simp only []; omega) (by simp only []; omega) (hK.later t1 (Nat.le_refl _) (Nat.le_refl _))
  have HN := hidd (fun w1 (g1 : Grew E.w0 w1) => hnode.kept g1)
  obtain ⟨kr, hkr⟩ : ∃ kr, thenK (K a gl { s with ticks := s.ticks + 1 }) (runK E.fuel (star (den R E.S (n + 1) q) c a gl) K) = kr := ⟨_, rfl⟩
  rw [hkr] at HC ⊢
  unfold Pat.cells at HC
  clear hkr hK hg hd hsd hw hE hp he hn ha hc h1 hnode hpq hq hq0
  obtain ⟨sv, ov, h⟩ := hst
  have HBx := hidd (boxed (E := E) h.lt p (.slice (some ⟨kb, ko, none⟩) 1 kc) a (.func (.func g) #[] lb))
  have HGr : Hid (Grew w ((((w.alloc (.cells #[.pointer (some ⟨E.lb, 0, none⟩)] 51)).alloc (.cells (p.cells (.slice (some ⟨kb, ko, none⟩) 1 kc)) 25)).alloc (.cells #[.int .i64 a] 3)).alloc (.cells #[.func (.func g) #[] lb] 81))) := ((((Grew.refl w).alloc _).alloc _).alloc _).alloc _
  have H := hidd h
  have hb : decide ((E.fuel : Int) ≤ (s.ticks : Int)) = false := decide_eq_false (by omega)
  have hb2 : decide (E.fuel ≤ s.ticks) = false := decide_eq_false (by omega)
  clear h
  unfold Pat.cells at HBx HGr ⊢
  rw [hk] at HBx HGr ⊢
  go_enter Tryd.func18, Tryd.ntmps18
  go_wp2_with fail
  generalize ((((w.alloc (.cells #[.pointer (some ⟨E.lb, 0, none⟩)] 51)).alloc (.cells #[.int .i64 20, .string p.text, .int .i64 p.n, .string p.name, .slice (some ⟨kb, ko, none⟩) 1 kc] 25)).alloc (.cells #[.int .i64 a] 3)).alloc (.cells #[.func (.func g) #[] lb] 81)) = W at HBx HGr ⊢
  have HW := hidd (H.out.grown hO HGr.out)
  have c5 := HBx.out.c5
  have c3 : W.cell? ⟨E.lb, 3, none⟩ = some (.int .i64 s.ticks) := HW.out.cell rfl
  have c2 : W.cell? ⟨E.lb, 2, none⟩ = some (.int .i64 E.fuel) := HW.out.cell rfl
  have f3 := HW.out.free 3
  obtain ⟨b, hbb⟩ : ∃ b, w.heap.size = b := ⟨_, rfl⟩
  rw [hbb] at HBx c5 ⊢
  go_quiet (fail)
  have HT1 := tick_st hO HW.out nq
  go_upto_region 5 with fail
  clear c5 c3 c2 f3 hb hb2
  generalize ((W.drewN nq).setCell ⟨E.lb, 3, none⟩ (.int .i64 ((s.ticks : Int) + 1))) = W1 at HT1 ⊢
  have HS1 := hidd HT1.1
  have HTu := hidd ((Turn.of_grew (M := M) HGr.out).trans HT1.2)
  have HB1 := hidd (HBx.out.kept HT1.2)
  clear HT1 HBx HW HGr
  have c5 := HB1.out.c5
  obtain ⟨q0, q1, q2, q3, q4⟩ := HB1.out.fields
  rw [hk] at q0
  have c7 := HB1.out.c7
  have c9 := HB1.out.c9
  have c1 : W1.cell? ⟨E.lb, 1, none⟩ = some (.string E.S) := HS1.out.cell rfl
  obtain ⟨k0, k1, k2, k3, k4, _, _, _, _⟩ := HN.out W1 HS1.out.grew
  have HCd := hidd (HC.out W1.drew (HTu.out.trans (Turn.of_grew (Grew.refl W1).drew)) ⟨_, _, HS1.out.grown hO (Grew.refl W1).drew⟩)
  clear HC
  go_wp2_with fail
  go_region_held3 (fun x => x.cell? ⟨b, 0, none⟩ = some (.pointer (some ⟨E.lb, 0, none⟩)) ∧ x.cell? ⟨b + 1, 4, none⟩ = some (.slice (some ⟨kb, ko, none⟩) 1 kc) ∧ x.cell? ⟨b + 1 + 1, 0, none⟩ = some (.int .i64 a) ∧ x.cell? ⟨b + 1 + 1 + 1, 0, none⟩ = some (.func (.func g) #[] lb) ∧ x.cell? ⟨kb, ko, none⟩ = some (.int .i64 q.kind) ∧ x.cell? ⟨kb, ko + 1, none⟩ = some (.string q.text) ∧ x.cell? ⟨kb, ko + 2, none⟩ = some (.int .i64 q.n) ∧ x.cell? ⟨kb, ko + 3, none⟩ = some (.string q.name) ∧ x.cell? ⟨kb, ko + 4, none⟩ = some kq) (first | go_keep | with_reducible exact hnm)
    ((go_at_call 35; refine HCd.out.mono ?_; rintro r W2 ⟨rfl, M2, t2, s2⟩; have HB2 := HB1.out.kept ((Turn.of_grew (Grew.refl W1).drew).trans t2); have HN2 := HN.out W2 s2.grew; have hnm : W2.cell? ⟨b, 0, none⟩ = some (.pointer (some ⟨E.lb, 0, none⟩)) ∧ W2.cell? ⟨b + 1, 4, none⟩ = some (.slice (some ⟨kb, ko, none⟩) 1 kc) ∧ W2.cell? ⟨b + 1 + 1, 0, none⟩ = some (.int .i64 a) ∧ W2.cell? ⟨b + 1 + 1 + 1, 0, none⟩ = some (.func (.func g) #[] lb) ∧ W2.cell? ⟨kb, ko, none⟩ = some (.int .i64 q.kind) ∧ W2.cell? ⟨kb, ko + 1, none⟩ = some (.string q.text) ∧ W2.cell? ⟨kb, ko + 2, none⟩ = some (.int .i64 q.n) ∧ W2.cell? ⟨kb, ko + 3, none⟩ = some (.string q.name) ∧ W2.cell? ⟨kb, ko + 4, none⟩ = some kq := ⟨HB2.c5, HB2.fields.2.2.2.2, HB2.c7, HB2.c9, HN2.c0, HN2.c1, HN2.c2, HN2.c3, HN2.c4⟩; have HX := hidd (And.intro t2 s2); clear t2 s2 HB2 HN2))
  all_goals
    go_wp2_with fail
    go_ret
    exact ⟨rfl, M2, (HTu.out.trans (Turn.of_grew (Grew.refl W1).drew)).trans HX.out.1, HX.out.2⟩
set_option maxRecDepth 100000 in
set_option maxHeartbeats 2000000 in
theorem Try_cond (hO : OutOk E O) (p : Pat) (kv : Value) (a : Nat) (gv : Value) (gl : List Gift) (d : Nat) (g : FuncId) (lb : Array Value) (K : Cont γ) (hst : St E O w M s) (hk : p.kind = 21) (ht : s.ticks < E.fuel) (hf : E.fuel ≤ 100000) (hL : E.S.size ≤ 65536) {R : List Rule} {n : Nat} (hT : TrySpec E O R n) (hp : PatV E.w0 kv p) (he : errW (p.kid 0) = 0) (h1 : p.kids.length = 1) (hn : E.fuel ≤ s.ticks + 1 + n)
    (hg : GV w M gv gl) (ha : a ≤ E.S.size) (hw : s.ways ≤ E.V) (hd : gl.length + d ≤ s.ticks) (hsd : s.said.length ≤ 300000 * (s.ticks + s.ways)) (hK : ThenOk E O M w (s.ticks + 1) d a g lb K) :
    Calls Tryd.prog 18 #[.pointer (some ⟨E.lb, 0, none⟩), .agg (p.cells kv), .int .i64 a, gv, .func (.func g) #[] lb] w fun r w' => r = .returned (.int .i64 ((runK E.fuel (den R E.S (n + 1) (p.kid 0) a gl) (fun e h s => K e (h ++ [(p.name, E.S.extract a e)]) s) { s with ticks := s.ticks + 1 }).1 : Nat)) ∧ ∃ M', Turn M M' w w' ∧ St E O w' M' (runK E.fuel (den R E.S (n + 1) (p.kid 0) a gl) (fun e h s => K e (h ++ [(p.name, E.S.extract a e)]) s) { s with ticks := s.ticks + 1 }).2 := by
  obtain ⟨q, kb, ko, kc, kq, hq, rfl, hnode, hpq⟩ := one_kid hp h1
  have hq0 : p.kid 0 = q := by rw [Pat.kid_eq, hq]; rfl
  rw [hq0] at he ⊢
  obtain ⟨gp, gc, rfl, _⟩ := hg.1.len
  have HC : Hid (∀ W1 b, Turn M M w W1 → St E O W1 M { s with ticks := s.ticks + 1 } → Boxed E.lb M W1 b p (.slice (some ⟨kb, ko, none⟩) 1 kc) a (.func (.func g) #[] lb) → Calls Tryd.prog 18 #[.pointer (some ⟨E.lb, 0, none⟩), .agg (q.cells kq), .int .i64 a, .slice gp gl.length gc, .func (.func 36) #[] #[.pointer (some ⟨b + 1 + 1 + 1, 0, none⟩), .pointer (some ⟨b + 1, 0, none⟩), .pointer (some ⟨b, 0, none⟩), .pointer (some ⟨b + 1 + 1, 0, none⟩)]] W1 fun r w' => r = .returned (.int .i64 ((runK E.fuel (den R E.S (n + 1) q a gl) (fun e h s => K e (h ++ [(p.name, E.S.extract a e)]) s) { s with ticks := s.ticks + 1 }).1 : Nat)) ∧ ∃ M', Turn M M' W1 w' ∧ St E O w' M' (runK E.fuel (den R E.S (n + 1) q a gl) (fun e h s => K e (h ++ [(p.name, E.S.extract a e)]) s) { s with ticks := s.ticks + 1 }).2) := fun W1 b t1 h1 hB =>
    hT W1 M _ q kq a _ gl (d + 1) _ _ _ h1 hpq he (hg.kept t1) ha ht hn hw (by simp only []; omega) (by simp only []; omega) ((cond_clo hO hB hf hL (hK.later t1 (Nat.le_refl _) (Nat.le_refl _))).later (Turn.refl _ _) (Nat.le_succ _) (Nat.le_refl _))
  have HN := hidd (fun w1 (g1 : Grew E.w0 w1) => hnode.kept g1)
  obtain ⟨kr, hkr⟩ : ∃ kr, runK E.fuel (den R E.S (n + 1) q a gl) (fun e h s => K e (h ++ [(p.name, E.S.extract a e)]) s) { s with ticks := s.ticks + 1 } = kr := ⟨_, rfl⟩
  rw [hkr] at HC ⊢
  unfold Pat.cells at HC
  clear hkr hK hg hd hsd hw hT hp he hn ha h1 hnode hpq hq hq0
  obtain ⟨sv, ov, h⟩ := hst
  have HBx := hidd (boxed (E := E) h.lt p (.slice (some ⟨kb, ko, none⟩) 1 kc) a (.func (.func g) #[] lb))
  have HGr : Hid (Grew w ((((w.alloc (.cells #[.pointer (some ⟨E.lb, 0, none⟩)] 51)).alloc (.cells (p.cells (.slice (some ⟨kb, ko, none⟩) 1 kc)) 25)).alloc (.cells #[.int .i64 a] 3)).alloc (.cells #[.func (.func g) #[] lb] 81))) := ((((Grew.refl w).alloc _).alloc _).alloc _).alloc _
  have H := hidd h
  have hb : decide ((E.fuel : Int) ≤ (s.ticks : Int)) = false := decide_eq_false (by omega)
  have hb2 : decide (E.fuel ≤ s.ticks) = false := decide_eq_false (by omega)
  clear h
  unfold Pat.cells at HBx HGr ⊢
  rw [hk] at HBx HGr ⊢
  go_enter Tryd.func18, Tryd.ntmps18
  go_wp2_with fail
  generalize ((((w.alloc (.cells #[.pointer (some ⟨E.lb, 0, none⟩)] 51)).alloc (.cells #[.int .i64 21, .string p.text, .int .i64 p.n, .string p.name, .slice (some ⟨kb, ko, none⟩) 1 kc] 25)).alloc (.cells #[.int .i64 a] 3)).alloc (.cells #[.func (.func g) #[] lb] 81)) = W at HBx HGr ⊢
  have HW := hidd (H.out.grown hO HGr.out)
  have c5 := HBx.out.c5
  have c3 : W.cell? ⟨E.lb, 3, none⟩ = some (.int .i64 s.ticks) := HW.out.cell rfl
  have c2 : W.cell? ⟨E.lb, 2, none⟩ = some (.int .i64 E.fuel) := HW.out.cell rfl
  have f3 := HW.out.free 3
  obtain ⟨b, hbb⟩ : ∃ b, w.heap.size = b := ⟨_, rfl⟩
  rw [hbb] at HBx c5 ⊢
  go_quiet (fail)
  have HT1 := tick_st hO HW.out nq
  go_upto_region 5 with fail
  clear c5 c3 c2 f3 hb hb2
  generalize ((W.drewN nq).setCell ⟨E.lb, 3, none⟩ (.int .i64 ((s.ticks : Int) + 1))) = W1 at HT1 ⊢
  have HS1 := hidd HT1.1
  have HTu := hidd ((Turn.of_grew (M := M) HGr.out).trans HT1.2)
  have HB1 := hidd (HBx.out.kept HT1.2)
  clear HT1 HBx HW HGr
  have c5 := HB1.out.c5
  obtain ⟨q0, q1, q2, q3, q4⟩ := HB1.out.fields
  rw [hk] at q0
  have c7 := HB1.out.c7
  have c9 := HB1.out.c9
  have c1 : W1.cell? ⟨E.lb, 1, none⟩ = some (.string E.S) := HS1.out.cell rfl
  obtain ⟨k0, k1, k2, k3, k4, _, _, _, _⟩ := HN.out W1 HS1.out.grew
  have HCd := hidd (HC.out W1.drew b (HTu.out.trans (Turn.of_grew (Grew.refl W1).drew)) ⟨_, _, HS1.out.grown hO (Grew.refl W1).drew⟩ (HB1.out.kept (Turn.of_grew (Grew.refl W1).drew)))
  clear HC
  go_wp2_with fail
  go_region_held3 (fun x => x.cell? ⟨b, 0, none⟩ = some (.pointer (some ⟨E.lb, 0, none⟩)) ∧ x.cell? ⟨b + 1, 4, none⟩ = some (.slice (some ⟨kb, ko, none⟩) 1 kc) ∧ x.cell? ⟨b + 1 + 1, 0, none⟩ = some (.int .i64 a) ∧ x.cell? ⟨b + 1 + 1 + 1, 0, none⟩ = some (.func (.func g) #[] lb) ∧ x.cell? ⟨kb, ko, none⟩ = some (.int .i64 q.kind) ∧ x.cell? ⟨kb, ko + 1, none⟩ = some (.string q.text) ∧ x.cell? ⟨kb, ko + 2, none⟩ = some (.int .i64 q.n) ∧ x.cell? ⟨kb, ko + 3, none⟩ = some (.string q.name) ∧ x.cell? ⟨kb, ko + 4, none⟩ = some kq) (first | go_keep | with_reducible exact hnm)
    ((go_at_call 18; refine HCd.out.mono ?_; rintro r W2 ⟨rfl, M2, t2, s2⟩; have HB2 := HB1.out.kept ((Turn.of_grew (Grew.refl W1).drew).trans t2); have HN2 := HN.out W2 s2.grew; have hnm : W2.cell? ⟨b, 0, none⟩ = some (.pointer (some ⟨E.lb, 0, none⟩)) ∧ W2.cell? ⟨b + 1, 4, none⟩ = some (.slice (some ⟨kb, ko, none⟩) 1 kc) ∧ W2.cell? ⟨b + 1 + 1, 0, none⟩ = some (.int .i64 a) ∧ W2.cell? ⟨b + 1 + 1 + 1, 0, none⟩ = some (.func (.func g) #[] lb) ∧ W2.cell? ⟨kb, ko, none⟩ = some (.int .i64 q.kind) ∧ W2.cell? ⟨kb, ko + 1, none⟩ = some (.string q.text) ∧ W2.cell? ⟨kb, ko + 2, none⟩ = some (.int .i64 q.n) ∧ W2.cell? ⟨kb, ko + 3, none⟩ = some (.string q.name) ∧ W2.cell? ⟨kb, ko + 4, none⟩ = some kq := ⟨HB2.c5, HB2.fields.2.2.2.2, HB2.c7, HB2.c9, HN2.c0, HN2.c1, HN2.c2, HN2.c3, HN2.c4⟩; have HX := hidd (And.intro t2 s2); clear t2 s2 HB2 HN2))
  all_goals
    go_wp2_with fail
    go_ret
    exact ⟨rfl, M2, (HTu.out.trans (Turn.of_grew (Grew.refl W1).drew)).trans HX.out.1, HX.out.2⟩
end
end Go.Proofs.YtcmdhgamlhnioaaDoor
