/- The document's Try: gifts that are said at once; the cursor. Printed. -/
import Derived.Test.YtcmdhgamlhnioaaDoorScRL
import Derived.Test.YtcmdhgamlhnioaaDoorScRJ
import Derived.Test.YtcmdhgamlhnioaaDoorScRD
namespace Go.Proofs.YtcmdhgamlhnioaaDoor
open Go.RowKit RR
set_option linter.unusedVariables false
section
variable {γ : Type} {E : Go.Proofs.YtcmdhgamlhnioaaDoor.Env} {O : OutP γ} {w : World} {M : Nat → Prop} {s : LS γ}
set_option maxRecDepth 100000 in
set_option maxHeartbeats 2000000 in
theorem Try_imm (hO : OutOk E O) (p : Pat) (kv : Value) (a : Nat) (gv : Value) (gl : List Gift) (d : Nat) (g : FuncId) (lb : Array Value) (K : Cont γ) (hst : St E O w M s) (hk : p.kind = 22) (ht : s.ticks < E.fuel) (hf : E.fuel ≤ 100000) (hL : E.S.size ≤ 65536) (hV : E.V ≤ 5000) {R : List Rule} {n : Nat} (hT : TrySpec E O R n) (hp : PatV E.w0 kv p) (he : errW (p.kid 0) = 0) (h1 : p.kids.length = 1) (hn : E.fuel ≤ s.ticks + 1 + n)
    (hg : GV w M gv gl) (ha : a ≤ E.S.size) (hw : s.ways ≤ E.V) (hd : gl.length + d ≤ s.ticks) (hsd : s.said.length ≤ 300000 * (s.ticks + s.ways)) (hK : ThenOk E O M w (s.ticks + 1) d a g lb K) :
    Calls Tryd.prog 18 #[.pointer (some ⟨E.lb, 0, none⟩), .agg (p.cells kv), .int .i64 a, gv, .func (.func g) #[] lb] w fun r w' => r = .returned (.int .i64 ((runK E.fuel (den R E.S (n + 1) (p.kid 0) a gl) (fun e h s => K e h { s with said := s.said ++ [(p.name, E.S.extract a e)] }) { s with ticks := s.ticks + 1 }).1 : Nat)) ∧ ∃ M', Turn M M' w w' ∧ St E O w' M' (runK E.fuel (den R E.S (n + 1) (p.kid 0) a gl) (fun e h s => K e h { s with said := s.said ++ [(p.name, E.S.extract a e)] }) { s with ticks := s.ticks + 1 }).2 := by
  obtain ⟨q, kb, ko, kc, kq, hq, rfl, hnode, hpq⟩ := one_kid hp h1
  have hq0 : p.kid 0 = q := by rw [Pat.kid_eq, hq]; rfl
  rw [hq0] at he ⊢
  obtain ⟨gp, gc, rfl, _⟩ := hg.1.len
  have HC : Hid (∀ W1 b, Turn M M w W1 → St E O W1 M { s with ticks := s.ticks + 1 } → Boxed E.lb M W1 b p (.slice (some ⟨kb, ko, none⟩) 1 kc) a (.func (.func g) #[] lb) → Calls Tryd.prog 18 #[.pointer (some ⟨E.lb, 0, none⟩), .agg (q.cells kq), .int .i64 a, .slice gp gl.length gc, .func (.func 38) #[] #[.pointer (some ⟨b, 0, none⟩), .pointer (some ⟨b + 1, 0, none⟩), .pointer (some ⟨b + 1 + 1, 0, none⟩), .pointer (some ⟨b + 1 + 1 + 1, 0, none⟩)]] W1 fun r w' => r = .returned (.int .i64 ((runK E.fuel (den R E.S (n + 1) q a gl) (fun e h s => K e h { s with said := s.said ++ [(p.name, E.S.extract a e)] }) { s with ticks := s.ticks + 1 }).1 : Nat)) ∧ ∃ M', Turn M M' W1 w' ∧ St E O w' M' (runK E.fuel (den R E.S (n + 1) q a gl) (fun e h s => K e h { s with said := s.said ++ [(p.name, E.S.extract a e)] }) { s with ticks := s.ticks + 1 }).2) := fun W1 b t1 h1 hB =>
    hT W1 M _ q kq a _ gl (d + 1) _ _ _ h1 hpq he (hg.kept t1) ha ht hn hw (by simp only []; omega) (by simp only []; omega) ((imm_clo hO hB hf hL hV (hK.later t1 (Nat.le_refl _) (Nat.le_refl _))).later (Turn.refl _ _) (Nat.le_succ _) (Nat.le_refl _))
  have HN := hidd (fun w1 (g1 : Grew E.w0 w1) => hnode.kept g1)
  obtain ⟨kr, hkr⟩ : ∃ kr, runK E.fuel (den R E.S (n + 1) q a gl) (fun e h s => K e h { s with said := s.said ++ [(p.name, E.S.extract a e)] }) { s with ticks := s.ticks + 1 } = kr := ⟨_, rfl⟩
  rw [hkr] at HC ⊢
  unfold Pat.cells at HC
  clear hkr hK hg hd hsd hw hT hp he hn ha h1 hnode hpq hq hq0
  obtain ⟨sv, ov, h⟩ := hst
  have HBx := hidd (boxed (E := E) h.lt p (.slice (some ⟨kb, ko, none⟩) 1 kc) a (.func (.func g) #[] lb))
  have HGr : Hid (Grew w ((((w.alloc (.cells #[.pointer (some ⟨E.lb, 0, none⟩)] 51)).alloc (.cells (p.cells (.slice (some ⟨kb, ko, none⟩) 1 kc)) 25)).alloc (.cells #[.int .i64 a] 3)).alloc (.cells #[.func (.func g) #[] lb] 81))) := ((((Grew.refl w).alloc _).alloc _).alloc _).alloc _
  have H := hidd h
  have hb : decide ((E.fuel : Int) ≤ (s.ticks : Int)) = false := decide_eq_false (by omega)
  have hb2 : decide (E.fuel ≤ s.ticks) = false := decide_eq_false (by omega)
  clear h
  unfold Pat.cells at HBx HGr ⊢
  rw [hk] at HBx HGr ⊢
  go_enter Tryd.func18, Tryd.ntmps18
  go_wp2_with fail
  generalize ((((w.alloc (.cells #[.pointer (some ⟨E.lb, 0, none⟩)] 51)).alloc (.cells #[.int .i64 22, .string p.text, .int .i64 p.n, .string p.name, .slice (some ⟨kb, ko, none⟩) 1 kc] 25)).alloc (.cells #[.int .i64 a] 3)).alloc (.cells #[.func (.func g) #[] lb] 81)) = W at HBx HGr ⊢
  have HW := hidd (H.out.grown hO HGr.out)
  have c5 := HBx.out.c5
  have c3 : W.cell? ⟨E.lb, 3, none⟩ = some (.int .i64 s.ticks) := HW.out.cell rfl
  have c2 : W.cell? ⟨E.lb, 2, none⟩ = some (.int .i64 E.fuel) := HW.out.cell rfl
  have f3 := HW.out.free 3
  obtain ⟨b, hbb⟩ : ∃ b, w.heap.size = b := ⟨_, rfl⟩
  rw [hbb] at HBx c5 ⊢
  go_quiet (fail)
  have HT1 := tick_st hO HW.out nq
  go_upto_region 5 with fail
  clear c5 c3 c2 f3 hb hb2
  generalize ((W.drewN nq).setCell ⟨E.lb, 3, none⟩ (.int .i64 ((s.ticks : Int) + 1))) = W1 at HT1 ⊢
  have HS1 := hidd HT1.1
  have HTu := hidd ((Turn.of_grew (M := M) HGr.out).trans HT1.2)
  have HB1 := hidd (HBx.out.kept HT1.2)
  clear HT1 HBx HW HGr
  have c5 := HB1.out.c5
  obtain ⟨q0, q1, q2, q3, q4⟩ := HB1.out.fields
  rw [hk] at q0
  have c7 := HB1.out.c7
  have c9 := HB1.out.c9
  have c1 : W1.cell? ⟨E.lb, 1, none⟩ = some (.string E.S) := HS1.out.cell rfl
  obtain ⟨k0, k1, k2, k3, k4, _, _, _, _⟩ := HN.out W1 HS1.out.grew
  have HCd := hidd (HC.out W1.drew b (HTu.out.trans (Turn.of_grew (Grew.refl W1).drew)) ⟨_, _, HS1.out.grown hO (Grew.refl W1).drew⟩ (HB1.out.kept (Turn.of_grew (Grew.refl W1).drew)))
  clear HC
  go_wp2_with fail
  go_region_held3 (fun x => x.cell? ⟨b, 0, none⟩ = some (.pointer (some ⟨E.lb, 0, none⟩)) ∧ x.cell? ⟨b + 1, 4, none⟩ = some (.slice (some ⟨kb, ko, none⟩) 1 kc) ∧ x.cell? ⟨b + 1 + 1, 0, none⟩ = some (.int .i64 a) ∧ x.cell? ⟨b + 1 + 1 + 1, 0, none⟩ = some (.func (.func g) #[] lb) ∧ x.cell? ⟨kb, ko, none⟩ = some (.int .i64 q.kind) ∧ x.cell? ⟨kb, ko + 1, none⟩ = some (.string q.text) ∧ x.cell? ⟨kb, ko + 2, none⟩ = some (.int .i64 q.n) ∧ x.cell? ⟨kb, ko + 3, none⟩ = some (.string q.name) ∧ x.cell? ⟨kb, ko + 4, none⟩ = some kq) (first | go_keep | with_reducible exact hnm)
    ((go_at_call 18; refine HCd.out.mono ?_; rintro r W2 ⟨rfl, M2, t2, s2⟩; have HB2 := HB1.out.kept ((Turn.of_grew (Grew.refl W1).drew).trans t2); have HN2 := HN.out W2 s2.grew; have hnm : W2.cell? ⟨b, 0, none⟩ = some (.pointer (some ⟨E.lb, 0, none⟩)) ∧ W2.cell? ⟨b + 1, 4, none⟩ = some (.slice (some ⟨kb, ko, none⟩) 1 kc) ∧ W2.cell? ⟨b + 1 + 1, 0, none⟩ = some (.int .i64 a) ∧ W2.cell? ⟨b + 1 + 1 + 1, 0, none⟩ = some (.func (.func g) #[] lb) ∧ W2.cell? ⟨kb, ko, none⟩ = some (.int .i64 q.kind) ∧ W2.cell? ⟨kb, ko + 1, none⟩ = some (.string q.text) ∧ W2.cell? ⟨kb, ko + 2, none⟩ = some (.int .i64 q.n) ∧ W2.cell? ⟨kb, ko + 3, none⟩ = some (.string q.name) ∧ W2.cell? ⟨kb, ko + 4, none⟩ = some kq := ⟨HB2.c5, HB2.fields.2.2.2.2, HB2.c7, HB2.c9, HN2.c0, HN2.c1, HN2.c2, HN2.c3, HN2.c4⟩; have HX := hidd (And.intro t2 s2); clear t2 s2 HB2 HN2))
  all_goals
    go_wp2_with fail
    go_ret
    exact ⟨rfl, M2, (HTu.out.trans (Turn.of_grew (Grew.refl W1).drew)).trans HX.out.1, HX.out.2⟩
set_option maxRecDepth 100000 in
set_option maxHeartbeats 4000000 in
theorem Try_cursor (hO : OutOk E O) (p : Pat) (kv : Value) (a : Nat) (gv : Value) (gl : List Gift) (d : Nat) (g : FuncId) (lb : Array Value) (K : Cont γ) (hst : St E O w M s) (hk : p.kind = 23) (ht : s.ticks < E.fuel) (hf : E.fuel ≤ 100000) (hL : E.S.size ≤ 65536) (hV : E.V ≤ 5000)
    (hg : GV w M gv gl) (ha : a ≤ E.S.size) (hw : s.ways ≤ E.V) (hd : gl.length + d ≤ s.ticks) (hsd : s.said.length ≤ 300000 * (s.ticks + s.ways)) (hK : ThenOk E O M w (s.ticks + 1) d a g lb K) :
    Calls Tryd.prog 18 #[.pointer (some ⟨E.lb, 0, none⟩), .agg (p.cells kv), .int .i64 a, gv, .func (.func g) #[] lb] w fun r w' => r = .returned (.int .i64 ((K a gl { s with ticks := s.ticks + 1, said := s.said ++ [(p.name, digText a)] }).1 : Nat)) ∧ ∃ M', Turn M M' w w' ∧ St E O w' M' (K a gl { s with ticks := s.ticks + 1, said := s.said ++ [(p.name, digText a)] }).2 := by
  have eg := hK.enters
  obtain ⟨gp, gc, rfl, _⟩ := hg.1.len
  obtain ⟨kr, hkr⟩ : ∃ kr, K a gl { s with ticks := s.ticks + 1, said := s.said ++ [(p.name, digText a)] } = kr := ⟨_, rfl⟩
  have HC : Hid (∀ W1 M1, Turn M M1 w W1 → St E O W1 M1 { s with ticks := s.ticks + 1, said := s.said ++ [(p.name, digText a)] } → Calls Tryd.prog g (#[.int .i64 a, .slice gp gl.length gc] ++ lb) W1 fun r w' => r = .returned (.int .i64 (kr.1 : Nat)) ∧ ∃ M', Turn M1 M' W1 w' ∧ St E O w' M' kr.2) := fun W1 M1 t1 h1 => by
    have := hK.calls W1 M1 a _ gl _ t1 h1 (hg.kept t1) ha (Nat.le_refl _) (Nat.le_refl _) ht hw (by simp only []; omega) (by simp only [List.length_append, List.length_singleton]; omega)
    rw [hkr] at this
    exact this
  rw [hkr]
  have hn : s.said.length ≤ 1000000000000 := by omega
  have HA := hidd (And.intro hn (show a ≤ 1000000 by omega))
  clear hkr hK hg hd hsd hw ha hn
  obtain ⟨sv, ov, h⟩ := hst
  have HBx := hidd (boxed (E := E) h.lt p (kv) a (.func (.func g) #[] lb))
  have HGr : Hid (Grew w ((((w.alloc (.cells #[.pointer (some ⟨E.lb, 0, none⟩)] 51)).alloc (.cells (p.cells (kv)) 25)).alloc (.cells #[.int .i64 a] 3)).alloc (.cells #[.func (.func g) #[] lb] 81))) := ((((Grew.refl w).alloc _).alloc _).alloc _).alloc _
  have H := hidd h
  have hb : decide ((E.fuel : Int) ≤ (s.ticks : Int)) = false := decide_eq_false (by omega)
  have hb2 : decide (E.fuel ≤ s.ticks) = false := decide_eq_false (by omega)
  clear h
  unfold Pat.cells at HBx HGr ⊢
  rw [hk] at HBx HGr ⊢
  go_enter Tryd.func18, Tryd.ntmps18
  go_wp2_with fail
  generalize ((((w.alloc (.cells #[.pointer (some ⟨E.lb, 0, none⟩)] 51)).alloc (.cells #[.int .i64 23, .string p.text, .int .i64 p.n, .string p.name, kv] 25)).alloc (.cells #[.int .i64 a] 3)).alloc (.cells #[.func (.func g) #[] lb] 81)) = W at HBx HGr ⊢
  have HW := hidd (H.out.grown hO HGr.out)
  have c5 := HBx.out.c5
  have c3 : W.cell? ⟨E.lb, 3, none⟩ = some (.int .i64 s.ticks) := HW.out.cell rfl
  have c2 : W.cell? ⟨E.lb, 2, none⟩ = some (.int .i64 E.fuel) := HW.out.cell rfl
  have f3 := HW.out.free 3
  obtain ⟨b, hbb⟩ : ∃ b, w.heap.size = b := ⟨_, rfl⟩
  rw [hbb] at HBx c5 ⊢
  go_quiet (fail)
  have HT1 := tick_st hO HW.out nq
  go_upto_region 5 with fail
  clear c5 c3 c2 f3 hb hb2
  generalize ((W.drewN nq).setCell ⟨E.lb, 3, none⟩ (.int .i64 ((s.ticks : Int) + 1))) = W1 at HT1 ⊢
  have HS1 := hidd HT1.1
  have HTu := hidd ((Turn.of_grew (M := M) HGr.out).trans HT1.2)
  have HB1 := hidd (HBx.out.kept HT1.2)
  clear HT1 HBx HW HGr
  have c5 := HB1.out.c5
  obtain ⟨q0, q1, q2, q3, q4⟩ := HB1.out.fields
  rw [hk] at q0
  have c7 := HB1.out.c7
  have c9 := HB1.out.c9
  have c1 : W1.cell? ⟨E.lb, 1, none⟩ = some (.string E.S) := HS1.out.cell rfl
  have HSay : Hid (∀ gg cap w1, SaidIn W1.drew E.w0.heap.size s.said.length sv (saidCells s.said) [.string p.name, .string (digText a)] gg cap w1 → ∃ M3, Turn M M3 W1 (w1.setCell ⟨E.lb, 4, none⟩ (.slice (some ⟨gg, 0, none⟩) (s.said.length + 1) cap)) ∧ St E O (w1.setCell ⟨E.lb, 4, none⟩ (.slice (some ⟨gg, 0, none⟩) (s.said.length + 1) cap)) M3 { s with ticks := s.ticks + 1, said := s.said ++ [(p.name, digText a)] }) := fun gg cap w1 hsd => by
    obtain ⟨M3, h1, h2⟩ := (HS1.out.grown hO ((Grew.refl W1).drew)).say hO (x := (p.name, digText a)) hsd.grew hsd.own hsd.lies hsd.lt
    exact ⟨M3, (Turn.of_grew ((Grew.refl W1).drew)).trans h2, _, _, h1⟩
  go_wp2_with fail
  have hap : ∀ k, ¬ M k → sv.ownBlock ≠ some k ∧ k ≠ E.lb := fun k hk => ⟨fun h => hk ((HS1.out.may _).2 (Or.inr (Or.inr (Or.inl h)))), fun h => hk ((HS1.out.may _).2 (Or.inl h))⟩
  have a5 := hap b (HB1.out.safe b (Nat.le_refl _) (by omega)).2
  have a6 := hap (b + 1) (HB1.out.safe _ (by omega) (by omega)).2
  have a7 := hap (b + 1 + 1) (HB1.out.safe _ (by omega) (by omega)).2
  have hown : W1.ownsRow E.w0.heap.size 57 2 sv s.said.length (saidCells s.said) := HS1.out.said
  have hsvlt : ∀ k, sv.ownBlock = some k → k < W1.heap.size := fun k h => (World.ownsRow.lt hown k h).2
  have hbase := HS1.out.grew.size
  have hne := HS1.out.ne_said
  have hlt0 := HS1.out.hlt
  have c4 : W1.cell? ⟨E.lb, 4, none⟩ = some sv := HS1.out.cell rfl
  have f4 := HS1.out.free 4
  refine RR.region_frame (J := SayJ W1.drew E.lb E.w0.heap.size s.said.length sv (saidCells s.said) [.string p.name, .string (digText a)] 4 10 11 14 74) (Rl := SayRl E.lb sv.ownBlock) [63, 64, 65, 66, 67, 68, 69, 70, 71, 72, 73, 74, 75, 76] mixedS (SayRl.drew _ _) SayRl.trans
    [.val (.pointer (some ⟨E.lb, 0, none⟩)), .val (.pointer (some ⟨E.lb, 0, none⟩)), .val (.pointer (some ⟨E.lb, 0, none⟩)), .val (.pointer (some ⟨E.lb, 4, none⟩)), .val sv, .val (.pointer (some ⟨b + 1, 3, none⟩)), .val (.string p.name), .val (.int .i64 a), .val (.string (digText a)), .val (.agg #[.string p.name, .string (digText a)]), oneGift W1.drew E.lb sv.ownBlock p.name (digText a), .fact fun _ _ => True, .val (.pointer (some ⟨E.lb, 0, none⟩)), .val (.pointer (some ⟨E.lb, 4, none⟩)), .fact fun _ _ => True]
    (say_start _ _) (say_mono (wb := W1.drew) (u := p.name) (v := digText a) ?_) rfl (by kernel_rfl)
    ⟨sj_load (agg_no Tryd.underlying51 rfl) c5 a5.1 (by simp) (by decide) (by decide) (by decide) (by kernel_rfl) rfl rfl,
     sj_load (agg_no Tryd.underlying51 rfl) c5 a5.1 (by simp) (by decide) (by decide) (by decide) (by kernel_rfl) rfl rfl,
     sj_nil (by decide) (by decide) (by decide) (by kernel_rfl) rfl rfl,
     sj_field (field_look4 _) (by decide) (by decide) (by decide) (by kernel_rfl) rfl rfl,
     sj_load4 (wb := W1.drew) (agg_no Tryd.underlying26 rfl) c4 hne (by decide) (by decide) (by decide) (by kernel_rfl) rfl rfl,
     sj_field (field_pat3 _) (by decide) (by decide) (by decide) (by kernel_rfl) rfl rfl,
     sj_load (agg_no Tryd.underlying9 rfl) q3 a6.1 (by simp) (by decide) (by decide) (by decide) (by kernel_rfl) rfl rfl,
     sj_load (agg_no Tryd.underlying3 rfl) c7 a7.1 (by simp) (by decide) (by decide) (by decide) (by kernel_rfl) rfl rfl,
     sj_call (by kernel_rfl) (fun a4 w4 E4 => by
      have hv : a4.eval (.tmp 70) = .int .i64 a := E4.opv (x := .tmp 70) rfl
      simp only [List.map_toArray, List.map_cons, List.map_nil, hv]
      exact Digits_any a w4 HA.out.2) (by decide) (by decide) (by decide) (by kernel_rfl) rfl,
     sj_gift (by decide) (by decide) (by decide) (by kernel_rfl) rfl rfl rfl,
     sj_list (wb := W1.drew) hsvlt hlt0 (by decide) (by decide) (by decide) (by kernel_rfl) rfl rfl,
     sj_append (wb := W1.drew) (by kernel_rfl) (by kernel_rfl) (by decide) HA.out.1 hown rfl hbase (by simp) (by decide) (by kernel_rfl) rfl rfl rfl,
     sj_nil (by decide) (by decide) (by decide) (by kernel_rfl) rfl rfl,
     sj_field (field_look4 _) (by decide) (by decide) (by decide) (by kernel_rfl) rfl rfl,
     sj_store (wb := W1.drew) (by kernel_rfl) (by kernel_rfl) (by decide) hne ⟨_, c4⟩ f4 (by decide) size_gifts (by kernel_rfl) rfl rfl, trivial⟩ ?_
  · intro s hs
    simp only [List.mem_cons, List.not_mem_nil, or_false] at hs
    rcases hs with rfl | rfl | rfl | rfl | rfl | rfl | rfl | rfl | rfl | rfl | rfl | rfl | rfl | rfl | rfl <;> first | exact Or.inl ⟨_, rfl⟩ | exact Or.inr (Or.inl rfl) | exact Or.inr (Or.inr rfl)
  intro xs listed a3 w3 hall hxs hJ hR ht2
  obtain ⟨gg, cap, w1, hsaid, rfl⟩ := hJ.p2 (hall 14 (by decide))
  obtain ⟨M3, t3, s3⟩ := HSay.out gg cap w1 hsaid
  have HCC := hidd (HC.out _ M3 (HTu.out.trans t3) s3)
  have HB3 := HB1.out.kept t3
  have d9 := HB3.c9
  have d7 := HB3.c7
  have HT3 := hidd (HTu.out.trans t3)
  simp only [List.foldl_cons, List.foldl_nil, List.setIfInBounds_toArray, List.set_cons_succ, List.set_cons_zero]
  generalize (w1.setCell ⟨E.lb, 4, none⟩ (.slice (some ⟨gg, 0, none⟩) (s.said.length + 1) cap)) = W3 at HCC d9 d7 HT3 ⊢
  clear ht2 hJ hR hall hxs hsaid t3 s3 HB3 c5 c7 c9 q0 q1 q2 q3 q4 c1 c4 f4 hlt0 hown hne a5 a6 a7 hsvlt hbase hap HC HSay HA
  go_wp2_with (go_at_fn g; refine HCC.out.mono ?_; rintro r w4 ⟨rfl, M4, t4, s4⟩; have H4 := hidd (And.intro (HT3.out.trans t4) s4); clear t4 s4)
  go_ret
  exact ⟨rfl, M4, H4.out.1, H4.out.2⟩
end
end Go.Proofs.YtcmdhgamlhnioaaDoor
