/- The document's Of: an automaton as a table over bytes. -/
import Derived.Test.YtkkdpafkafjfgaaTwAuO
import Derived.Laws.Rows
namespace Go.Proofs.Ytkkdpafkafjfgaa
open Go.RowKit
set_option linter.unusedVariables false
theorem results_cellA {fn : Func} {p : Tmp} {ty : TypeId} (h : fn.results = #[.cell p ty]) (tmps : Array Value) (P : Program) (w : World) :
    (results fn tmps).run P w = ((asAddr (tmps.getD p undef)).run P w).andThen fun a w₁ => (loadVar ty a).run P w₁ := by
  simp only [results, h]
  simp [Sem.run_bind, Result.andThen]
theorem results_tab {fn : Func} {p : Tmp} (h : fn.results = #[.cell p 44]) {w : World} {tmps : Array Value} {rb : Nat} {cs : Array Value} (hp : tmps.getD p undef = .pointer (some ⟨rb, 0, none⟩)) (hg : w.heap[rb]? = some (.cells cs 44 (0, 0))) (hc : cs.size = 2) :
    (results fn tmps).run Try.prog w = .ok (.agg cs) w := by
  rw [results_cellA h, hp]
  have h := run_loadVar_row (P := Try.prog) w rb 44 44 cs (0, 0) _ hg Try.underlying44 rfl (by rw [hc]; exact info_tab)
  simp [asAddr, h]
theorem wpList_build_row {ops : Array Oper} {rest : List Oper} {o : Oper} {a : Act} {w : World} {Q : Exit → Act → World → Prop} (hgd : o.guard = none) {x : Operand} (ho : o.op = .buildSlice 42 1 #[(0, x)]) {f : Nat → Int} (hx : a.eval x = .agg (rowI f))
    (h : wpList Try.prog ops Q rest (a.put o.dst (.slice (some ⟨w.heap.size, 0, none⟩) 1 1)) (w.alloc (.cells (rowI f) 22))) : wpList Try.prog ops Q (o :: rest) a w := by
  refine wpList_plain hgd fun _ hK => ?_
  unfold Oper.wp execOp
  simp only [ho, List.map_toArray, List.map_cons, List.map_nil, hx, Sem.run_bind, build_row, Result.andThen_ok, Sem.run_pure]
  exact hK _ _ h
set_option maxRecDepth 100000 in
set_option maxHeartbeats 4000000 in
theorem AOf_any (A : Aut) (na ea : Option Addr) (nc ec : Nat) (w : World) (h : AutAt w A na ea) (hr : RightA A) : Calls Try.prog 19 #[.agg (autB A na nc ea ec)] w fun e w' => ∃ qv, e = .returned (.agg #[qv, .slice ea A.ends.length ec]) ∧ QRow w' w.heap.size 22 256 qv A.next.length (tabC A A.next.length) ∧ Grew w w' := by
  have hB := box_new w A na nc ea ec 26
  have hG := (Grew.refl w).alloc (.cells (autB A na nc ea ec) 26)
  have a1 := autB_next A na nc ea ec
  have a2 := autB_ends A na nc ea ec
  generalize autB A na nc ea ec = av at hB hG a1 a2 ⊢
  obtain ⟨n, hn⟩ : ∃ n, A.next.length = n := ⟨_, rfl⟩
  have h9 : n ≤ 8192 := by have := hr.n1; omega
  have HR := hidd hr
  have HA := hidd h
  have HN := hidd hn
  have hz := run_zero_rowI
  have S0 : Hid (OfSt w (((w.alloc (.cells av 26)).alloc (.cells #[.slice none 0 0, .slice none 0 0] 44)).alloc (.cells #[.slice none 0 0, .slice ea A.ends.length ec] 44)) A na nc ea ec 0 (.slice none 0 0)) := by
    have e1 := heap_more (o := .cells #[.slice none 0 0, .slice ea A.ends.length ec] 44) (heap_alloc_new (w.alloc (.cells av 26)) (.cells #[.slice none 0 0, .slice none 0 0] 44))
    have e2 := heap_alloc_new ((w.alloc (.cells av 26)).alloc (.cells #[.slice none 0 0, .slice none 0 0] 44)) (.cells #[.slice none 0 0, .slice ea A.ends.length ec] 44)
    rw [World.size_alloc] at e1
    rw [World.size_alloc, World.size_alloc] at e2
    exact ⟨(hG.alloc _).alloc _, hB.kept (((Grew.refl _).alloc _).alloc _), e1, e2, ⟨rfl, none, 0, rfl, Nat.le_refl _, Nat.zero_le _, fun h => absurd h (by omega)⟩, fun b hb => by cases hb⟩
  rw [hn] at a1
  clear hB hG hr h hn
  go_enter Try.func19, Try.ntmps19
  go_wp2_with fail
  generalize ((w.alloc (.cells av 26)).alloc (.cells #[.slice none 0 0, .slice none 0 0] 44)).alloc (.cells #[.slice none 0 0, .slice ea A.ends.length ec] 44) = W at S0 ⊢
  clear a1 a2
  go_loopw [14] (fun s14 wr => ∃ i : Nat, s14 = .int .i64 i ∧ i ≤ n ∧ Hid (∃ qa qc, OfSt w wr A na nc ea ec i (.slice qa i qc))) (fun s14 _ => n - (intOf s14).toNat)
  case atStart => exact ⟨0, rfl, by omega, none, 0, S0.out⟩
  case round =>
    obtain ⟨i, rfl, hi, KS⟩ := hrel
    obtain ⟨qa, qc, hS⟩ := KS.out
    have HS := hidd hS
    clear S0 KS hS
    by_cases hlt : i < n
    · have kl : decide ((i : Int) < (n : Int)) = true := decide_eq_true (by omega)
      obtain ⟨ra, rc, hs, hs2⟩ := (HA.out.kept HS.out.grew).next
      obtain ⟨nb, no, rfl, hc⟩ := hs.get (by rw [HN.out]; omega)
      have c0 := hc i (by rw [HN.out]; exact hlt)
      have hsr := hs2 i (by rw [HN.out]; exact hlt)
      have HC256 := hidd HA.out.c256
      have hto : Hid (∀ c, c < 256 → ∃ kn : Nat, A.cls.getD c 0 = (kn : Int) ∧ kn < (A.next.getD i []).length ∧ stepI A i c = (A.next.getD i []).getD kn 0) := fun c hcb => by
        have h1 := HR.out.cl HC256.out hcb
        have h2 := (HR.out.to HC256.out (s := i) (by rw [HN.out]; exact hlt) hcb).1
        exact ⟨(A.cls.getD c 0).toNat, by omega, h2, rfl⟩
      obtain ⟨r, hrr⟩ : ∃ r, A.next.getD i [] = r := ⟨_, rfl⟩
      rw [hrr] at c0 hsr hto
      generalize ra i = ria at c0 hsr
      have HSr := hidd hsr
      clear hs hs2 hc hsr hrr
      go_wp2_with fail
      have hgl : w.heap.size + 1 + 1 < wr.heap.size := (Array.getElem?_eq_some_iff.1 HS.out.tab).1
      have HI0 : Hid (Grew wr (wr.alloc (.cells (rowI fun _ => 0) 22)) ∧ ArrAt (wr.alloc (.cells (rowI fun _ => 0) 22)) wr.heap.size 0 256 fun j => .int .i64 (if j < 0 then stepI A i j else 0)) := ⟨(Grew.refl wr).alloc _, rowI_at wr (fun _ => 0) 22⟩
      generalize wr.alloc (.cells (rowI fun _ => 0) 22) = W1 at HI0 ⊢
      obtain ⟨w0, rfl⟩ : ∃ w0, w0 = wr := ⟨_, rfl⟩
      obtain ⟨g0, hg0⟩ : ∃ g0, w0.heap.size = g0 := ⟨_, rfl⟩
      rw [hg0] at hgl HI0 ⊢
      have HG0 := hidd hg0
      clear hg0 c0
      go_loopw [18] (fun s18 wr => ∃ c : Nat, s18 = .int .i64 c ∧ c ≤ 256 ∧ Hid (Grew w0 wr ∧ ArrAt wr g0 0 256 fun j => .int .i64 (if j < c then stepI A i j else 0))) (fun s18 _ => 256 - (intOf s18).toNat)
      case atStart => exact ⟨0, rfl, by omega, HI0.out⟩
      case round =>
        obtain ⟨c, rfl, hcl, KI⟩ := hrel
        clear HI0
        by_cases hcb : c < 256
        · have kc : decide ((c : Int) < 256) = true := decide_eq_true (by omega)
          obtain ⟨kn, hk, hkl, hst⟩ := hto.out c hcb
          obtain ⟨rb, ro, rfl, hrc⟩ := HSr.out.get (by omega)
          have ct := KI.out.1.keeps (hrc kn hkl)
          have cc := KI.out.1.keeps (HS.out.box.cl.at0 c hcb)
          rw [hk] at cc
          have cr := KI.out.2.at0 c hcb
          have cf := KI.out.2.free0 c hcb
          rw [if_neg (Nat.lt_irrefl c)] at cr
          generalize r.getD kn 0 = t at hst ct
          have HSt := hidd hst
          clear hk hst hrc
          go_wp2_with fail
          have HN2 : Hid (Grew w0 (wr.setCell ⟨g0, c, none⟩ (.int .i64 t)) ∧ ArrAt (wr.setCell ⟨g0, c, none⟩ (.int .i64 t)) g0 0 256 fun j => .int .i64 (if j < c + 1 then stepI A i j else 0)) := by
            refine ⟨KI.out.1.setCell (p := ⟨g0, c, none⟩) (Nat.le_of_eq HG0.out) _, (KI.out.2.set0 c hcb _).congr fun j hj => ?_⟩
            by_cases e : j = c
            · subst e; rw [if_pos rfl, if_pos (by omega), HSt.out]
            · rw [if_neg e]
              by_cases e2 : j < c
              · rw [if_pos e2, if_pos (by omega)]
              · rw [if_neg e2, if_neg (by omega)]
          go_roundw
          case rel => exact ⟨c + 1, by go_num, by omega, HN2.out⟩
          case measure => simp [intOf]; omega
        · obtain rfl : c = 256 := by omega
          have kc : decide ((256 : Int) < 256) = false := rfl
          have HAr : Hid (ArrAt wr g0 0 256 fun j => .int .i64 (stepI A i j)) := KI.out.2.congr fun j hj => by rw [if_pos hj]
          have HS2 := hidd (HS.out.kept KI.out.1)
          obtain ⟨⟨t0, t1⟩, tf⟩ := two_cells HS2.out.tab
          have tf0 := tf 0
          obtain ⟨i0, hi0, hz0, hz1, hz2⟩ : ∃ i0, Try.prog.info? 22 = some i0 ∧ i0.zero = some (.agg (rowI fun _ => 0)) ∧ i0.size = 256 ∧ i0.bytes = 2048 := by
            have h := info_rows
            cases hq : Try.prog.info? 22 with
            | none => rw [hq] at h; cases h
            | some i0 =>
              rw [hq] at h
              simp only [Option.map_some, Option.some.injEq, Prod.mk.injEq] at h
              exact ⟨i0, rfl, h.1, h.2.1, h.2.2⟩
          have HS3 := hidd (HS2.out.kept ((Grew.refl wr).alloc (.cells (rowI fun c => stepI A i c) 22)))
          obtain ⟨v', w', hap, hq, hgr, _⟩ := QRow.append (P := Try.prog) agg_rows hi0 hz0 hz1 hz2 (rowI_size _) HS3.out.row (Nat.le_trans (by have := (Array.getElem?_eq_some_iff.1 HS3.out.tab).1; omega) (Nat.le_refl _)) wr.heap.size 1 (rowI fun c => stepI A i c).toList (rowI_list _) (fun j u hu => by
            unfold World.cell?
            dsimp only
            rw [heap_alloc_new wr (.cells (rowI fun c => stepI A i c) 22)]
            rw [Array.getElem?_toList] at hu
            exact hu) (fun u hu => by
            obtain ⟨j, _, rfl⟩ := List.mem_map.1 (show u ∈ (List.range 256).map fun j => Value.int .i64 (stepI A i j) from hu)
            rfl) (by unfold maxLen; omega) (by omega) 42
          rw [← tabC_succ] at hq
          have HP := hidd (HS3.out.push hgr hq)
          obtain ⟨vb, vo, vc, rfl, _⟩ := hq.at (by omega)
          have tw0 : w'.cell? ⟨w.heap.size + 1 + 1, 0, none⟩ = some (.slice qa i qc) ∧ w'.frozen? ⟨w.heap.size + 1 + 1, 0, none⟩ = false := by
            have hl2 := (Array.getElem?_eq_some_iff.1 HS3.out.tab).1
            have e : w'.heap[w.heap.size + 1 + 1]? = _ := (hgr.block _ hl2 (fun e => by have := (HS3.out.own _ e.symm).1; omega)).trans HS3.out.tab
            obtain ⟨⟨x0, _⟩, xf⟩ := two_cells e
            exact ⟨x0, xf 0⟩
          obtain ⟨tw1, tw2⟩ := tw0
          clear tf t1 hq hgr HS3 KI hcl
          go_wp2_with (first | (refine wpList_load_row rfl rfl rfl HAr.out ?_) | (refine wpList_build_row rfl rfl rfl ?_) | (at_builtin; refine wpList_append_eq rfl rfl rfl rfl hap ?_))
          exact ⟨⟨i + 1, by simp, by omega, ⟨_, _, HP.out⟩⟩, by simp [intOf]; omega⟩
    · obtain rfl : i = n := by omega
      have kl : decide ((i : Int) < (i : Int)) = false := decide_eq_false (by omega)
      obtain ⟨⟨t0, t1⟩, tf⟩ := two_cells HS.out.tab
      obtain ⟨⟨r0, r1⟩, rf⟩ := two_cells HS.out.res
      have rf0 := rf 0
      have rf1 := rf 1
      clear rf tf hlt hi
      go_wp2_with fail
      have e1 : ((wr.setCell ⟨w.heap.size + 1, 0, none⟩ (.slice qa i qc)).setCell ⟨w.heap.size + 1, 1, none⟩ (.slice ea A.ends.length ec)).heap[w.heap.size + 1]? = some (.cells #[.slice qa i qc, .slice ea A.ends.length ec] 44 (0, 0)) := by
        rw [q_set_same (q_set_same HS.out.res 0 _)]; rfl
      refine bodyPost_ret (results_tab (rb := w.heap.size + 1) rfl rfl e1 rfl) rfl ⟨_, rfl, ?_, (HS.out.grew.setCell (p := ⟨w.heap.size + 1, 0, none⟩) (show w.heap.size ≤ w.heap.size + 1 by omega) _).setCell (p := ⟨w.heap.size + 1, 1, none⟩) (show w.heap.size ≤ w.heap.size + 1 by omega) _⟩
      rw [HN.out]
      have hq := HS.out.row.kept (w' := (wr.setCell ⟨w.heap.size + 1, 0, none⟩ (.slice qa i qc)).setCell ⟨w.heap.size + 1, 1, none⟩ (.slice ea A.ends.length ec)) fun k hk _ => by
        have := (HS.out.own k hk).1
        rw [q_set_other _ _ (by omega), q_set_other _ _ (by omega)]
      exact ⟨hq.1, by
        obtain ⟨_, a, cap, h1, h2, h3, h4⟩ := hq
        exact ⟨a, cap, h1, h2, h3, fun hc => by
          obtain ⟨b, off, cur, k1, k2, k3⟩ := h4 hc
          exact ⟨b, off, cur, k1, by omega, k3⟩⟩⟩
end Go.Proofs.Ytkkdpafkafjfgaa
