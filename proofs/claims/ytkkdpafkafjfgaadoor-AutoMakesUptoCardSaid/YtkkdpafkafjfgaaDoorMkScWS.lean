/- The document's Size: a queue of nodes. -/
import Derived.Test.YtkkdpafkafjfgaaDoorMkPScNo
import Derived.Test.YtkkdpafkafjfgaaDoorMkPAuEy
import Derived.Test.YtkkdpafkafjfgaaDoorMkPStArr
namespace Go.Proofs.YtkkdpafkafjfgaaDoor
open Go.RowKit
set_option linter.unusedVariables false
abbrev Ent := Pat × Value × Nat
def entCells (x : Ent) : List Value := [.int .i64 x.1.kind, .string x.1.text, .int .i64 x.1.n, .string x.1.name, x.2.1, .int .i64 x.2.2]
def quCells (l : List Ent) : List Value := l.flatMap entCells
theorem quCells_snoc (l : List Ent) (x : Ent) : quCells (l ++ [x]) = quCells l ++ entCells x := by unfold quCells; rw [List.flatMap_append]; simp
def maxE : List Ent → Nat
  | [] => 0
  | x :: l => max (x.2.2 + depthP x.1 - 1) (maxE l)
theorem maxE_append (a b : List Ent) : maxE (a ++ b) = max (maxE a) (maxE b) := by
  induction a with
  | nil => simp [maxE]
  | cons x a ih => rw [List.cons_append, maxE, maxE, ih]; omega
theorem maxE_kids : ∀ (e : List Ent) (d : Nat), (∀ x ∈ e, x.2.2 = d + 1) → max d (maxE e) = d + depthL (e.map (·.1))
  | [], d, h => by simp [maxE, depthL]
  | x :: e, d, h => by
    rw [maxE, List.map_cons, depthL]
    have h1 := h x (by simp)
    have h2 := maxE_kids e d (fun y hy => h y (by simp [hy]))
    have h3 := depthP_pos x.1
    omega
structure Owes (p : Pat) (l : List Ent) (N D : Nat) : Prop where
  nodes : N + nodesL (l.map (·.1)) = nodesP p
  depth : max D (maxE l) = depthP p
theorem Owes.step {p q : Pat} {kv : Value} {d N D : Nat} {l e : List Ent} (h : Owes p ((q, kv, d) :: l) N D) (hd : 1 ≤ d) (he : e.map (·.1) = q.kids) (hed : ∀ x ∈ e, x.2.2 = d + 1) : Owes p (l ++ e) (N + 1) (max D d) := by
  have h1 := h.nodes
  have h2 := h.depth
  rw [List.map_cons, nodesL] at h1
  rw [maxE] at h2
  dsimp only at h1 h2
  have h3 := maxE_kids e d hed
  rw [nodesP_eq] at h1
  rw [depthP_eq] at h2
  rw [he] at h3
  exact ⟨by rw [List.map_append, nodesL_append, he]; omega, by rw [maxE_append]; omega⟩
theorem Owes.ends {p : Pat} {N D : Nat} (h : Owes p [] N D) : N = nodesP p ∧ D = depthP p := by
  have h1 := h.nodes
  have h2 := h.depth
  simp [nodesL, maxE] at h1 h2
  exact ⟨h1, h2⟩
theorem Owes.over {p q : Pat} {kv : Value} {d N D : Nat} {l : List Ent} (h : Owes p ((q, kv, d) :: l) N D) (ho : 4096 < N + 1 ∨ 200 < max D d) : ¬ (nodesP p ≤ 4096 ∧ depthP p ≤ 200) := by
  have h1 := h.nodes
  have h2 := h.depth
  rw [List.map_cons, nodesL] at h1
  rw [maxE] at h2
  dsimp only at h1 h2
  have := nodesP_pos q
  have := depthP_pos q
  omega
theorem info_one : (Tryd.prog.info? 131).map (fun i => (i.zero, i.size, i.bytes)) = some (some (.agg #[.int .i64 0, .string ByteArray.empty, .int .i64 0, .string ByteArray.empty, .slice none 0 0, .int .i64 0]), 6, 80) := by kernel_rfl
theorem size_one (w : World) : (sizeOf (Tryd.prog.elem 132)).run Tryd.prog w = .ok 6 w := by kernel_rfl
theorem under_ones : Tryd.prog.underlying 132 = some (.slice (Tryd.prog.elem 132)) := by kernel_rfl
def sizeR (p : Pat) : Value := if nodesP p ≤ 4096 ∧ depthP p ≤ 200 then .tuple #[.int .i64 (nodesP p : Nat), .int .i64 (depthP p : Nat), .bool true] else .tuple #[.int .i64 0, .int .i64 0, .bool false]
structure QuAt (w0 wr : World) (v : Value) (l : List Ent) : Prop where
  row : QRow wr w0.heap.size 131 6 v l.length (quCells l)
  own : ∀ b, v.ownBlock = some b → w0.heap.size ≤ b ∧ b < wr.heap.size
  pats : ∀ x ∈ l, PatV w0 x.2.1 x.1
  grew : Grew w0 wr
theorem QuAt.form {w0 wr : World} {v : Value} {l : List Ent} (h : QuAt w0 wr v l) : ∃ a c, v = .slice a l.length c := by
  obtain ⟨_, a, c, e, _⟩ := h.row
  exact ⟨a, c, e⟩
theorem QuAt.kept {w0 wr w2 : World} {v : Value} {l : List Ent} (h : QuAt w0 wr v l) (g : Grew wr w2) : QuAt w0 w2 v l :=
  ⟨h.row.grew g, fun b hb => ⟨(h.own b hb).1, Nat.lt_of_lt_of_le (h.own b hb).2 g.size⟩, h.pats, h.grew.trans g⟩
theorem QuAt.push {w0 wr : World} {v : Value} {l : List Ent} (h : QuAt w0 wr v l) (x : Ent) (hx : PatV w0 x.2.1 x.1) (hl : l.length ≤ 4000000) (ty : TypeId) :
    ∃ a c w', (Builtin.append_ #[132, 132] ty #[v, .slice (some ⟨wr.heap.size, 0, none⟩) 1 1]).run Tryd.prog (wr.alloc (.cells #[.int .i64 x.1.kind, .string x.1.text, .int .i64 x.1.n, .string x.1.name, x.2.1, .int .i64 x.2.2] 131)) = .ok (.slice a (l.length + 1) c) w' ∧
      QuAt w0 w' (.slice a (l.length + 1) c) (l ++ [x]) ∧ wr.grownBy w' v.ownBlock ∧ (∀ b, (Value.slice a (l.length + 1) c).ownBlock = some b → v.ownBlock = some b ∨ wr.heap.size ≤ b) := by
  obtain ⟨i0, hi0, hz0, hz1, hz2⟩ := info_parts info_one
  have hga : Grew wr (wr.alloc (.cells #[.int .i64 x.1.kind, .string x.1.text, .int .i64 x.1.n, .string x.1.name, x.2.1, .int .i64 x.2.2] 131)) := (Grew.refl wr).alloc _
  obtain ⟨ka, kc, hkv, _⟩ := hx.kids.len
  have h2 := h.kept hga
  obtain ⟨v', w', hr, hq, hg, hb⟩ := QRow.append (P := Tryd.prog) Tryd.underlying132 hi0 hz0 hz1 hz2 rfl h2.row (Nat.le_trans h.grew.size hga.size) wr.heap.size 1 (entCells x) rfl (fun j u hu => by
      rw [World.cell?_alloc_mark]
      simpa [entCells] using hu) (fun u hu => by
      simp only [entCells, List.mem_cons, List.not_mem_nil, or_false] at hu
      rcases hu with rfl | rfl | rfl | rfl | rfl | rfl <;> first | rfl | (rw [hkv]; rfl)) (by unfold maxLen; omega) (by omega) ty
  have hq' := hq
  obtain ⟨_, a, c, rfl, _⟩ := hq'
  have hsz : (wr.alloc (.cells #[.int .i64 x.1.kind, .string x.1.text, .int .i64 x.1.n, .string x.1.name, x.2.1, .int .i64 x.2.2] 131)).heap.size = wr.heap.size + 1 := by simp
  refine ⟨a, c, w', hr, ⟨by rw [quCells_snoc, List.length_append]; exact hq, fun b hbb => ?_, fun y hy => ?_, ?_⟩, ⟨hg.os.trans hga.os, hg.tape.trans hga.tape, hg.output.trans hga.output, Nat.le_trans hga.size hg.size, fun k hk hne => (hg.block k (Nat.lt_of_lt_of_le hk hga.size) hne).trans (hga.block k hk)⟩, fun b hbb => ?_⟩
  · rcases hb with e | e
    · rw [e] at hbb
      exact ⟨(h.own b hbb).1, Nat.lt_of_lt_of_le (h2.own b hbb).2 hg.size⟩
    · rw [e, hsz] at hbb
      cases hbb
      obtain ⟨b', off, cap, e1, e2, e3, _⟩ := hq.at (by omega)
      cases e1
      rw [hsz] at e
      have e : some b' = some (wr.heap.size + 1) := e
      cases e
      exact ⟨e2, e3⟩
  · rcases List.mem_append.1 hy with hy | hy
    · exact h.pats y hy
    · rw [List.mem_singleton] at hy; rw [hy]; exact hx
  · exact (h.grew.trans hga).grown hg (fun b hbb => (h.own b hbb).1)
  · rcases hb with e | e
    · exact Or.inl (e ▸ hbb)
    · rw [e, hsz] at hbb; cases hbb; exact Or.inr (Nat.le_succ _)
set_option maxRecDepth 100000 in
set_option maxHeartbeats 8000000 in
theorem SizeR_any (kv : Value) (p : Pat) (w : World) (hp : PatV w kv p) (hB : nodesP p ≤ 2000000) :
    Calls Tryd.prog 24 #[.agg (p.cells kv)] w fun e w' => e = .returned (sizeR p) ∧ Grew w w' := by
  obtain ⟨ka, kc, rfl, hkl⟩ := hp.kids.len
  obtain ⟨W, hW⟩ : ∃ W, (w.alloc (.cells (p.cells (.slice ka p.kids.length kc)) 24)).alloc (.cells #[.int .i64 p.kind, .string p.text, .int .i64 p.n, .string p.name, .slice ka p.kids.length kc, .int .i64 1] 131) = W := ⟨_, rfl⟩
  have HQ0 : Hid (QuAt w W (.slice (some ⟨w.heap.size + 1, 0, none⟩) 1 1) [(p, .slice ka p.kids.length kc, 1)]) := by
    have hg1 : Grew w (w.alloc (.cells (p.cells (.slice ka p.kids.length kc)) 24)) := (Grew.refl w).alloc _
    have hs1 : (w.alloc (.cells (p.cells (.slice ka p.kids.length kc)) 24)).heap.size = w.heap.size + 1 := by simp
    have := QRow.made (base := w.heap.size) (e := 131) (size := 6) (w.alloc (.cells (p.cells (.slice ka p.kids.length kc)) 24)) #[.int .i64 p.kind, .string p.text, .int .i64 p.n, .string p.name, .slice ka p.kids.length kc, .int .i64 1] 1 (by omega) (by decide) rfl
    rw [hW, hs1] at this
    refine ⟨this, fun b hb => ?_, fun x hx => ?_, hW ▸ (hg1.alloc _)⟩
    · cases hb; rw [← hW]; simp
    · rw [List.mem_singleton] at hx; rw [hx]; exact hp
  have HO0 : Hid (Owes p [(p, .slice ka p.kids.length kc, 1)] 0 0) := ⟨by simp [nodesL], by simp [maxE]⟩
  have HR : Hid (∀ x, nodesP p ≤ 4096 ∧ depthP p ≤ 200 → x = sizeR p → x = .tuple #[.int .i64 (nodesP p : Nat), .int .i64 (depthP p : Nat), .bool true]) := fun x h e => by rw [e]; unfold sizeR; rw [if_pos h]
  have HT : Hid (nodesP p ≤ 4096 ∧ depthP p ≤ 200 → sizeR p = .tuple #[.int .i64 (nodesP p : Nat), .int .i64 (depthP p : Nat), .bool true]) := fun h => by unfold sizeR; rw [if_pos h]
  have HF : Hid (¬ (nodesP p ≤ 4096 ∧ depthP p ≤ 200) → sizeR p = .tuple #[.int .i64 0, .int .i64 0, .bool false]) := fun h => by unfold sizeR; rw [if_neg h]
  have HBd := hidd hB
  clear HR hB hp
  unfold Pat.cells at hW ⊢
  go_enter Tryd.func24, Tryd.ntmps24
  go_wp2_with fail
  clear hW
  go_loopw [5, 6, 7, 8, 10] (fun u5 u6 u7 _ _ wr => ∃ (l : List Ent) (N D : Nat) (a : Option Addr) (c : Nat), u5 = .slice a l.length c ∧ u6 = .int .i64 N ∧ u7 = .int .i64 D ∧ N ≤ 4096 ∧ D ≤ 200 ∧ Hid (QuAt w wr (.slice a l.length c) l) ∧ Hid (Owes p l N D) ∧ Hid (∀ x ∈ l, 1 ≤ x.2.2 ∧ x.2.2 ≤ 201)) (fun _ u6 _ _ _ _ => 4097 - (intOf u6).toNat)
  case atStart => exact ⟨[(p, .slice ka p.kids.length kc, 1)], 0, 0, _, _, rfl, rfl, rfl, by omega, by omega, HQ0.out, HO0.out, fun x hx => by rw [List.mem_singleton] at hx; rw [hx]; exact ⟨Nat.le_refl _, by show (1 : Nat) ≤ 201; omega⟩⟩
  case round =>
    obtain ⟨l, N, D, a, c, rfl, rfl, rfl, hN, hD, HQ, HO, HDp⟩ := hrel
    clear HQ0 HO0
    cases l with
    | nil =>
      obtain ⟨e1, e2⟩ := HO.out.ends
      have HE : Hid (sizeR p = .tuple #[.int .i64 N, .int .i64 D, .bool true]) := by
        rw [Hid, HT.out ⟨by omega, by omega⟩, e1, e2]
      have HG := hidd HQ.out.grew
      clear e1 e2
      go_wp2_with fail
      refine bodyPost_ret (v := .tuple #[.int .i64 N, .int .i64 D, .bool true]) (by simp [results, Tryd.results24, go_sem]) rfl ⟨by rw [HE.out], HG.out⟩
    | cons x l =>
      obtain ⟨wo, rfl⟩ : ∃ wo, wo = wr := ⟨_, rfl⟩
      obtain ⟨q, kv, d⟩ := x
      have hPq : PatV w kv q := HQ.out.pats (q, kv, d) (List.mem_cons_self ..)
      obtain ⟨qa, qn, ekv, _⟩ := hPq.kids.len
      subst ekv
      obtain ⟨hd1, hd2⟩ := HDp.out _ (List.mem_cons_self ..)
      dsimp only at hd1 hd2
      obtain ⟨b, off, cap, hv, hb1, hb2, hb3, hb4, hcs⟩ := HQ.out.row.at (Nat.succ_pos _)
      obtain ⟨a', c', hrun, hq', how⟩ := HQ.out.row.tail (P := Tryd.prog) under_ones size_one
      cases hv
      have z0 := hcs 0 (.int .i64 q.kind) (by rw [List.length_cons]; omega) rfl
      have z1 := hcs 1 (.string q.text) (by rw [List.length_cons]; omega) rfl
      have z2 := hcs 2 (.int .i64 q.n) (by rw [List.length_cons]; omega) rfl
      have z3 := hcs 3 (.string q.name) (by rw [List.length_cons]; omega) rfl
      have z4 := hcs 4 (.slice qa q.kids.length qn) (by rw [List.length_cons]; omega) rfl
      have z5 := hcs 5 (.int .i64 d) (by rw [List.length_cons]; omega) rfl
      rw [Nat.add_zero] at z0
      have HQ1 : Hid (QuAt w wo (.slice a' l.length c') l) := ⟨hq', fun b' hb' => HQ.out.own b' (how ▸ hb'), fun y hy => HQ.out.pats y (List.mem_cons_of_mem _ hy), HQ.out.grew⟩
      have HPq := hidd hPq
      have hOn := HO.out.nodes
      rw [List.map_cons, nodesL] at hOn
      dsimp only at hOn
      have hLn : l.length + q.kids.length ≤ 2000000 := by
        have := length_le_nodes (l.map (·.1))
        have := length_le_nodes q.kids
        have := nodesP_eq q
        have := HBd.out
        rw [List.length_map] at *
        omega
      have HStep := hidd (fun (e : List Ent) (h1 : e.map (·.1) = q.kids) h2 => HO.out.step hd1 h1 h2)
      have HOver := hidd (fun h => HF.out (HO.out.over h))
      have HDl : Hid (∀ x ∈ l, 1 ≤ x.2.2 ∧ x.2.2 ≤ 201) := fun x hx => HDp.out x (List.mem_cons_of_mem _ hx)
      have HKids : Hid (q.kids.length = 0 ∨ ∃ b' o', qa = some ⟨b', o', none⟩ ∧ 0 < q.kids.length ∧ q.kids.length ≤ qn ∧ qn ≤ maxLen ∧ ∀ i, i < q.kids.length → PatAt w b' (o' + i * 5) (q.kids.getD i Pat.zero)) := by
        rcases HPq.out.kids with ⟨x, y, e1, e2⟩ | ⟨b', o', c2, e1, h1, h2, h3, h4⟩
        · exact Or.inl (by rw [e2]; rfl)
        · cases e1; exact Or.inr ⟨b', o', rfl, h1, h2, h3, h4⟩
      obtain ⟨kl, hkl2⟩ : ∃ kl, q.kids.length = kl := ⟨_, rfl⟩
      obtain ⟨n, hn⟩ : ∃ n, l.length = n := ⟨_, rfl⟩
      rw [List.length_cons] at hrun ⊢
      rw [hn] at hrun HQ1 hLn ⊢
      rw [hkl2] at z4 hLn HKids
      have HKL := hidd hkl2
      have HNL := hidd hn
      have HTk : Hid (q.kids.take kl = q.kids) := by rw [Hid, ← hkl2]; exact List.take_length
      have HGw := hidd HQ1.out.grew
      have hnp : (n + 1 : Nat) ≤ 9223372036854775807 := by omega
      have hkb : kl ≤ 9223372036854775807 := by omega
      have hnd : decide (0 < n + 1) = true := decide_eq_true (by omega)
      have HLn := hidd hLn
      clear hOn hkl2 hn HO HDp HQ hLn hd1 HPq hcs hq' how hPq
      have hbx : wo.heap.size < (wo.alloc (.cells #[.int .i64 q.kind, .string q.text, .int .i64 q.n, .string q.name, .slice qa kl qn, .int .i64 d] 131)).heap.size := by simp
      rcases HKids.out with hk0 | ⟨b', o', rfl, hk0, hk1, hk2, hks⟩
      · have HK0 := hidd hk0
        clear hk0
        have HBx : Hid (∀ wx, Grew (wo.alloc (.cells #[.int .i64 q.kind, .string q.text, .int .i64 q.n, .string q.name, .slice qa kl qn, .int .i64 d] 131)) wx → wx.cell? ⟨wo.heap.size, 5, none⟩ = some (.int .i64 d)) := fun wx g => g.keeps (by rw [World.cell?_alloc_mark]; rfl)
        have c45 : (wo.alloc (.cells #[.int .i64 q.kind, .string q.text, .int .i64 q.n, .string q.name, .slice qa kl qn, .int .i64 d] 131)).cell? ⟨wo.heap.size, 5, none⟩ = some (.int .i64 d) := HBx.out _ (Grew.refl _)
        have c44 : (wo.alloc (.cells #[.int .i64 q.kind, .string q.text, .int .i64 q.n, .string q.name, .slice qa kl qn, .int .i64 d] 131)).cell? ⟨wo.heap.size, 4, none⟩ = some (.slice qa kl qn) := by rw [World.cell?_alloc_mark]; rfl
        have hov : (4096 < N + 1 ∨ 200 < max D d) ∨ (N + 1 ≤ 4096 ∧ max D d ≤ 200) := by omega
        rcases Nat.lt_or_ge D d with hDd | hDd
        all_goals
          have t1 : decide ((D : Int) < (d : Int)) = decide (D < d) := by rw [decide_eq_decide]; omega
          first | rw [decide_eq_true (show D < d by omega)] at t1 | rw [decide_eq_false (show ¬ D < d by omega)] at t1
          have t2 : decide (D < d) = decide ((D : Int) < (d : Int)) := by rw [decide_eq_decide]; omega
          rw [t1] at t2
          have hMx : (D < d ∧ max D d = d) ∨ (d ≤ D ∧ max D d = D) := by omega
          rcases hov with hov | ⟨hov1, hov2⟩
          · have HOv := hidd (HOver.out hov)
            have hov3 : 4096 < N + 1 ∨ (N + 1 ≤ 4096 ∧ 200 < max D d) := by omega
            have HG2 := hidd (HGw.out.trans ((Grew.refl wo).alloc (.cells #[.int .i64 q.kind, .string q.text, .int .i64 q.n, .string q.name, .slice qa kl qn, .int .i64 d] 131)))
            rcases hov3 with h4 | ⟨h4, h5⟩
            all_goals
              try (exfalso; omega)
              all_goals
                have t3 : decide ((4096 : Int) < (N : Int) + 1) = decide (4096 < N + 1) := by rw [decide_eq_decide]; omega
                first | rw [decide_eq_true (show 4096 < N + 1 by omega)] at t3 | rw [decide_eq_false (show ¬ 4096 < N + 1 by omega)] at t3
                have t4 : decide ((200 : Int) < (d : Int)) = decide (200 < d) := by rw [decide_eq_decide]; omega
                have t5 : decide ((200 : Int) < (D : Int)) = decide (200 < D) := by rw [decide_eq_decide]; omega
                first | rw [decide_eq_true (show 200 < d by omega)] at t4 | rw [decide_eq_false (show ¬ 200 < d by omega)] at t4 | clear t4
                first | rw [decide_eq_true (show 200 < D by omega)] at t5 | rw [decide_eq_false (show ¬ 200 < D by omega)] at t5 | clear t5
                clear hov hMx HStep HOver HDl HKids HTk
                go_wp2_with fail
                refine bodyPost_ret (v := .tuple #[.int .i64 0, .int .i64 0, .bool false]) (by simp [results, Tryd.results24, go_sem]) rfl ⟨by rw [HOv.out], HG2.out⟩
          · have t3 : decide ((4096 : Int) < (N : Int) + 1) = false := decide_eq_false (by omega)
            have t4 : decide ((200 : Int) < (d : Int)) = false := decide_eq_false (by omega)
            have t5 : decide ((200 : Int) < (D : Int)) = false := decide_eq_false (by omega)
            have HMx := hidd hMx
            have HM2 := hidd hov2
            clear hMx hov2
            have HQ2 := hidd (HQ1.out.kept ((Grew.refl wo).alloc (.cells #[.int .i64 q.kind, .string q.text, .int .i64 q.n, .string q.name, .slice qa kl qn, .int .i64 d] 131)))
            have HQo := hidd HQ1.out.own
            go_wp2_with fail
            obtain ⟨W8, hW8⟩ : ∃ W8, wo.alloc (.cells #[.int .i64 q.kind, .string q.text, .int .i64 q.n, .string q.name, .slice qa kl qn, .int .i64 d] 131) = W8 := ⟨_, rfl⟩
            rw [hW8] at HQ2 HBx ⊢
            have HS8 : Hid (wo.heap.size < W8.heap.size) := by rw [Hid, ← hW8]; simp
            clear hW8 z0 z1 z2 z3 z4 z5 c44 c45 hrun hnd hbx HQ1 HOver t1 t2 t3 t4 t5 hnp HKids
            go_loopw [5, 10, 40] (fun u5 _ u40 wr => ∃ (i : Nat) (e : List Ent) (a : Option Addr) (c : Nat), u40 = .int .i64 i ∧ i ≤ kl ∧ u5 = .slice a ((n + i : Nat)) c ∧ Hid (QuAt w wr (.slice a (n + i) c) (l ++ e)) ∧ Hid (e.map (·.1) = q.kids.take i ∧ ∀ x ∈ e, x.2.2 = d + 1) ∧ Hid ((∀ b, (Value.slice a (n + i) c).ownBlock = some b → b ≠ wo.heap.size) ∧ wr.heap[wo.heap.size]? = W8.heap[wo.heap.size]? ∧ wo.heap.size < wr.heap.size)) (fun _ _ u40 _ => kl - (intOf u40).toNat)
            case atStart => exact ⟨0, [], _, _, rfl, Nat.zero_le _, rfl, by rw [List.append_nil]; exact HQ2.out, ⟨rfl, fun x hx => by cases hx⟩, fun b hb => Nat.ne_of_lt (HQo.out b hb).2, rfl, HS8.out⟩
            case round =>
              obtain ⟨i, e, ax, cx, rfl, hi, rfl, HQx, HEx, HGx⟩ := hrel
              by_cases hlt : i < kl
              · exact absurd HK0.out (by omega)
              · obtain rfl : i = kl := by omega
                have s1 : decide ((i : Int) < (i : Int)) = false := decide_eq_false (by omega)
                have s2 : decide (i < i) = false := decide_eq_false (by omega)
                have HFin : Hid (Owes p (l ++ e) (N + 1) (max D d) ∧ ∀ x ∈ l ++ e, 1 ≤ x.2.2 ∧ x.2.2 ≤ 201) := by
                  refine ⟨HStep.out e (HEx.out.1.trans HTk.out) HEx.out.2, fun x hx => ?_⟩
                  rcases List.mem_append.1 hx with hx | hx
                  · exact HDl.out x hx
                  · have := HEx.out.2 x hx; have := HM2.out; omega
                have HLE : Hid ((l ++ e).length = n + i) := by
                  have h1 := congrArg List.length HEx.out.1
                  rw [List.length_map, List.length_take] at h1
                  rw [Hid, List.length_append, HNL.out, h1]
                  have := HKL.out; omega
                go_wp2_with fail
                go_roundw
                case rel => exact ⟨l ++ e, N + 1, max D d, ax, cx, by rw [HLE.out], by go_num, by first | rfl | rw [show max D d = d by omega] | rw [show max D d = D by omega], by omega, HM2.out, by rw [HLE.out]; exact HQx.out, HFin.out.1, HFin.out.2⟩
                case measure => simp [intOf]; omega
      · have HKs := hidd hks
        clear hks
        unfold maxLen at hk2
        have HBx : Hid (∀ wx, Grew (wo.alloc (.cells #[.int .i64 q.kind, .string q.text, .int .i64 q.n, .string q.name, .slice (some ⟨b', o', none⟩) kl qn, .int .i64 d] 131)) wx → wx.cell? ⟨wo.heap.size, 5, none⟩ = some (.int .i64 d)) := fun wx g => g.keeps (by rw [World.cell?_alloc_mark]; rfl)
        have c45 : (wo.alloc (.cells #[.int .i64 q.kind, .string q.text, .int .i64 q.n, .string q.name, .slice (some ⟨b', o', none⟩) kl qn, .int .i64 d] 131)).cell? ⟨wo.heap.size, 5, none⟩ = some (.int .i64 d) := HBx.out _ (Grew.refl _)
        have c44 : (wo.alloc (.cells #[.int .i64 q.kind, .string q.text, .int .i64 q.n, .string q.name, .slice (some ⟨b', o', none⟩) kl qn, .int .i64 d] 131)).cell? ⟨wo.heap.size, 4, none⟩ = some (.slice (some ⟨b', o', none⟩) kl qn) := by rw [World.cell?_alloc_mark]; rfl
        have hov : (4096 < N + 1 ∨ 200 < max D d) ∨ (N + 1 ≤ 4096 ∧ max D d ≤ 200) := by omega
        rcases Nat.lt_or_ge D d with hDd | hDd
        all_goals
          have t1 : decide ((D : Int) < (d : Int)) = decide (D < d) := by rw [decide_eq_decide]; omega
          first | rw [decide_eq_true (show D < d by omega)] at t1 | rw [decide_eq_false (show ¬ D < d by omega)] at t1
          have t2 : decide (D < d) = decide ((D : Int) < (d : Int)) := by rw [decide_eq_decide]; omega
          rw [t1] at t2
          have hMx : (D < d ∧ max D d = d) ∨ (d ≤ D ∧ max D d = D) := by omega
          rcases hov with hov | ⟨hov1, hov2⟩
          · have HOv := hidd (HOver.out hov)
            have hov3 : 4096 < N + 1 ∨ (N + 1 ≤ 4096 ∧ 200 < max D d) := by omega
            have HG2 := hidd (HGw.out.trans ((Grew.refl wo).alloc (.cells #[.int .i64 q.kind, .string q.text, .int .i64 q.n, .string q.name, .slice (some ⟨b', o', none⟩) kl qn, .int .i64 d] 131)))
            rcases hov3 with h4 | ⟨h4, h5⟩
            all_goals
              try (exfalso; omega)
              all_goals
                have t3 : decide ((4096 : Int) < (N : Int) + 1) = decide (4096 < N + 1) := by rw [decide_eq_decide]; omega
                first | rw [decide_eq_true (show 4096 < N + 1 by omega)] at t3 | rw [decide_eq_false (show ¬ 4096 < N + 1 by omega)] at t3
                have t4 : decide ((200 : Int) < (d : Int)) = decide (200 < d) := by rw [decide_eq_decide]; omega
                have t5 : decide ((200 : Int) < (D : Int)) = decide (200 < D) := by rw [decide_eq_decide]; omega
                first | rw [decide_eq_true (show 200 < d by omega)] at t4 | rw [decide_eq_false (show ¬ 200 < d by omega)] at t4 | clear t4
                first | rw [decide_eq_true (show 200 < D by omega)] at t5 | rw [decide_eq_false (show ¬ 200 < D by omega)] at t5 | clear t5
                clear hov hMx HStep HOver HDl HKids HTk
                go_wp2_with fail
                refine bodyPost_ret (v := .tuple #[.int .i64 0, .int .i64 0, .bool false]) (by simp [results, Tryd.results24, go_sem]) rfl ⟨by rw [HOv.out], HG2.out⟩
          · have t3 : decide ((4096 : Int) < (N : Int) + 1) = false := decide_eq_false (by omega)
            have t4 : decide ((200 : Int) < (d : Int)) = false := decide_eq_false (by omega)
            have t5 : decide ((200 : Int) < (D : Int)) = false := decide_eq_false (by omega)
            have HMx := hidd hMx
            have HM2 := hidd hov2
            clear hMx hov2
            have HQ2 := hidd (HQ1.out.kept ((Grew.refl wo).alloc (.cells #[.int .i64 q.kind, .string q.text, .int .i64 q.n, .string q.name, .slice (some ⟨b', o', none⟩) kl qn, .int .i64 d] 131)))
            have HQo := hidd HQ1.out.own
            go_wp2_with fail
            obtain ⟨W8, hW8⟩ : ∃ W8, wo.alloc (.cells #[.int .i64 q.kind, .string q.text, .int .i64 q.n, .string q.name, .slice (some ⟨b', o', none⟩) kl qn, .int .i64 d] 131) = W8 := ⟨_, rfl⟩
            rw [hW8] at HQ2 HBx ⊢
            have HS8 : Hid (wo.heap.size < W8.heap.size) := by rw [Hid, ← hW8]; simp
            clear hW8 z0 z1 z2 z3 z4 z5 c44 c45 hrun hnd hbx HQ1 HOver t1 t2 t3 t4 t5 hnp HKids
            go_loopw [5, 10, 40] (fun u5 _ u40 wr => ∃ (i : Nat) (e : List Ent) (a : Option Addr) (c : Nat), u40 = .int .i64 i ∧ i ≤ kl ∧ u5 = .slice a ((n + i : Nat)) c ∧ Hid (QuAt w wr (.slice a (n + i) c) (l ++ e)) ∧ Hid (e.map (·.1) = q.kids.take i ∧ ∀ x ∈ e, x.2.2 = d + 1) ∧ Hid ((∀ b, (Value.slice a (n + i) c).ownBlock = some b → b ≠ wo.heap.size) ∧ wr.heap[wo.heap.size]? = W8.heap[wo.heap.size]? ∧ wo.heap.size < wr.heap.size)) (fun _ _ u40 _ => kl - (intOf u40).toNat)
            case atStart => exact ⟨0, [], _, _, rfl, Nat.zero_le _, rfl, by rw [List.append_nil]; exact HQ2.out, ⟨rfl, fun x hx => by cases hx⟩, fun b hb => Nat.ne_of_lt (HQo.out b hb).2, rfl, HS8.out⟩
            case round =>
              obtain ⟨i, e, ax, cx, rfl, hi, rfl, HQx, HEx, HGx⟩ := hrel
              by_cases hlt : i < kl
              · have hil : i < q.kids.length := by rw [HKL.out]; exact hlt
                have s1 : decide ((i : Int) < (kl : Int)) = true := decide_eq_true (by omega)
                have s2 : decide (i < kl) = true := decide_eq_true hlt
                obtain ⟨kq, hnq, hvq⟩ := (HKs.out i hlt).value
                have hqk : q.kids.getD i Pat.zero = q.kids[i] := by rw [List.getD_eq_getElem?_getD, List.getElem?_eq_getElem hil]; rfl
                have HTake : Hid (q.kids.take (i + 1) = q.kids.take i ++ [q.kids.getD i Pat.zero]) := by rw [Hid, hqk, List.take_succ_eq_append_getElem hil]
                obtain ⟨r, hr⟩ : ∃ r, q.kids.getD i Pat.zero = r := ⟨_, rfl⟩
                rw [hr] at hnq hvq HTake
                clear hqk hr hil
                obtain ⟨ra, rc, rfl, _⟩ := hvq.kids.len
                obtain ⟨rk, hrk⟩ : ∃ rk, r.kids.length = rk := ⟨_, rfl⟩
                rw [hrk] at hnq hvq
                have HV := hidd hvq
                obtain ⟨k0, k1, k2, k3, k4, _, _, _, _⟩ := hnq.kept HQx.out.grew
                have g1 : Grew wr (wr.alloc (.cells #[.int .i64 r.kind, .string r.text, .int .i64 r.n, .string r.name, .slice ra rk rc] 24)) := (Grew.refl wr).alloc _
                have hz1 : (wr.alloc (.cells #[.int .i64 r.kind, .string r.text, .int .i64 r.n, .string r.name, .slice ra rk rc] 24)).heap.size = wr.heap.size + 1 := by simp
                have hle : (l ++ e).length = n + i := by
                  have h1 := congrArg List.length HEx.out.1
                  rw [List.length_map, List.length_take] at h1
                  rw [List.length_append, HNL.out, h1]
                  have := HKL.out; omega
                obtain ⟨a2, c2, w2, hap, hq2, hg2, hb2'⟩ := (HQx.out.kept g1).push (r, .slice ra rk rc, d + 1) HV.out (by have := HLn.out; omega) 132
                rw [hle, hz1] at hap
                rw [hle] at hq2 hb2'
                rw [hz1] at hb2'
                dsimp only at hap
                rw [show ((d + 1 : Nat) : Int) = (d : Int) + 1 by omega] at hap
                have HB5 : Hid (∀ o, (wr.alloc o).cell? ⟨wo.heap.size, 5, none⟩ = some (.int .i64 d)) := fun o => by
                  refine ((Grew.refl wr).alloc o).keeps ?_
                  have := HBx.out W8 (Grew.refl _)
                  rw [World.cell?_of_block (a := ⟨wo.heap.size, 5, none⟩) HGx.out.2.1]
                  exact this
                have b5 := HB5.out
                have HNext : Hid (QuAt w w2 (.slice a2 (n + (i + 1)) c2) (l ++ (e ++ [(r, .slice ra rk rc, d + 1)])) ∧ ((e ++ [(r, Value.slice ra rk rc, d + 1)]).map (·.1) = q.kids.take (i + 1) ∧ ∀ x ∈ e ++ [(r, Value.slice ra rk rc, d + 1)], x.2.2 = d + 1) ∧ ((∀ b, (Value.slice a2 (n + (i + 1)) c2).ownBlock = some b → b ≠ wo.heap.size) ∧ w2.heap[wo.heap.size]? = W8.heap[wo.heap.size]? ∧ wo.heap.size < w2.heap.size)) := by
                  have hg12 := HGx.out
                  have hz2 : wo.heap.size < (wr.alloc (.cells #[.int .i64 r.kind, .string r.text, .int .i64 r.n, .string r.name, .slice ra rk rc] 24)).heap.size := by rw [hz1]; omega
                  refine ⟨by rw [← List.append_assoc]; exact hq2, ⟨by rw [List.map_append, HEx.out.1, HTake.out]; rfl, fun x hx => ?_⟩, fun b hb => ?_, ?_, Nat.lt_of_lt_of_le hz2 hg2.size⟩
                  · rcases List.mem_append.1 hx with hx | hx
                    · exact HEx.out.2 x hx
                    · rw [List.mem_singleton] at hx; rw [hx]
                  · rcases hb2' b hb with h | h
                    · exact hg12.1 b h
                    · omega
                  · rw [hg2.block _ hz2 (fun h => hg12.1 _ h.symm rfl), g1.block _ hg12.2.2]; exact hg12.2.1
                clear hg2 hq2 hb2' g1 hz1 hle hnq hvq
                go_wp2_with (at_builtin; refine wpList_append_eq rfl rfl rfl rfl hap ?_)
                go_roundw
                case rel => exact ⟨i + 1, _, a2, c2, by go_num, by omega, rfl, HNext.out.1, HNext.out.2.1, HNext.out.2.2⟩
                case measure => simp [intOf]; omega
              · obtain rfl : i = kl := by omega
                have s1 : decide ((i : Int) < (i : Int)) = false := decide_eq_false (by omega)
                have s2 : decide (i < i) = false := decide_eq_false (by omega)
                have HFin : Hid (Owes p (l ++ e) (N + 1) (max D d) ∧ ∀ x ∈ l ++ e, 1 ≤ x.2.2 ∧ x.2.2 ≤ 201) := by
                  refine ⟨HStep.out e (HEx.out.1.trans HTk.out) HEx.out.2, fun x hx => ?_⟩
                  rcases List.mem_append.1 hx with hx | hx
                  · exact HDl.out x hx
                  · have := HEx.out.2 x hx; have := HM2.out; omega
                have HLE : Hid ((l ++ e).length = n + i) := by
                  have h1 := congrArg List.length HEx.out.1
                  rw [List.length_map, List.length_take] at h1
                  rw [Hid, List.length_append, HNL.out, h1]
                  have := HKL.out; omega
                go_wp2_with fail
                go_roundw
                case rel => exact ⟨l ++ e, N + 1, max D d, ax, cx, by rw [HLE.out], by go_num, by first | rfl | rw [show max D d = d by omega] | rw [show max D d = D by omega], by omega, HM2.out, by rw [HLE.out]; exact HQx.out, HFin.out.1, HFin.out.2⟩
                case measure => simp [intOf]; omega
end Go.Proofs.YtkkdpafkafjfgaaDoor
