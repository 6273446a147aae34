/- The shortest text that is taken: the document's Shortest. -/
import Derived.Test.YtkkdpafkafjfgaaAuJ
import Derived.Test.YtkkdpafkafjfgaaAuF
namespace Go.Proofs.Ytkkdpafkafjfgaa
open Go.RowKit
set_option linter.unusedVariables false
/-- Each state with its text. -/
def txtL (L : List (Nat × List UInt8)) : List (Nat × Value) := L.map fun x => (x.1, .string ⟨x.2.toArray⟩)
theorem txtL_fst (L : List (Nat × List UInt8)) : (txtL L).map (·.1) = L.map (·.1) := by unfold txtL; rw [List.map_map]; rfl
/-- Where the document's Shortest stands: L has come up; the row holds those from the i-th on. -/
structure Lev (w wr : World) (T : Obj) (mb base : Nat) (L : List (Nat × List UInt8)) (i : Nat) (qv : Value) (k : Nat) : Prop where
  grew : Grew w wr
  tab : wr.heap[w.heap.size]? = some T
  map : KMap encI wr mb (txtL L)
  row : QRow wr base 3 1 qv k (qC L i)
  own : ∀ b, qv.ownBlock = some b → base ≤ b ∧ b < wr.heap.size
  len : k + i = L.length
  lo : w.heap.size < mb ∧ mb < base ∧ base ≤ wr.heap.size
section
variable {w wr w' : World} {T : Obj} {mb base : Nat} {L : List (Nat × List UInt8)} {i k : Nat} {qv qv' : Value}
theorem Lev.kept (h : Lev w wr T mb base L i qv k) (g : Grew wr w') : Lev w w' T mb base L i qv k :=
  ⟨h.grew.trans g, heap_kept g h.tab, h.map.kept g, h.row.grew g, fun b hb => ⟨(h.own b hb).1, Nat.lt_of_lt_of_le (h.own b hb).2 g.size⟩, h.len, ⟨h.lo.1, h.lo.2.1, Nat.le_trans h.lo.2.2 g.size⟩⟩
/-- One more is laid into the map, then into the row. -/
theorem Lev.add (h : Lev w wr T mb base L i qv k) {q : Nat} {v : ByteArray} {t : List UInt8} (hv : v = ⟨t.toArray⟩) (hq : q ∉ L.map (·.1)) (hq2 : q ≤ 9223372036854775807) (hk : k + 1 ≤ 10000) (ty : TypeId) :
    ∃ w1, (Instr.mapUpdate 61 (.map (some mb)) (.int .i64 (q : Nat)) (.string v)).run Try.prog wr = .ok () w1 ∧ w1.heap.size = wr.heap.size ∧
      ∃ v' w2, (Builtin.append_ #[41, 41] ty #[qv, .slice (some ⟨wr.heap.size, 0, none⟩) 1 1]).run Try.prog (w1.alloc (.cells #[.int .i64 (q : Nat)] 3)) = .ok v' w2 ∧ (∃ a cp, v' = .slice a (k + 1) cp) ∧ Lev w w2 T mb base (L ++ [(q, t)]) i v' (k + 1) ∧
      ∀ b, b < wr.heap.size → b ≠ mb → some b ≠ qv.ownBlock → w2.heap[b]? = wr.heap[b]? := by
  have hlo := h.lo
  obtain ⟨w1, p1, p2, p3, p4⟩ := h.map.put keyI (t := 61) Try.underlying61 (x := q) hq2 (by rw [txtL_fst]; exact hq) (.string v)
  refine ⟨w1, p1, p4, ?_⟩
  obtain ⟨i0, hi0, hz0, hz1, hz2⟩ := intsI
  have hown : ∀ b, qv.ownBlock = some b → base ≤ b := fun b hb => (h.own b hb).1
  have hrow1 : QRow w1 base 3 1 qv k (qC L i) := h.row.kept fun b hb hlt => p3.block b hlt (fun e => by have := hown b hb; injection e with e; omega)
  have hrow2 : QRow (w1.alloc (.cells #[.int .i64 (q : Nat)] 3)) base 3 1 qv k (qC L i) := hrow1.grew ((Grew.refl w1).alloc _)
  obtain ⟨v', w2, a1, a2, a3, a4⟩ := QRow.append (P := Try.prog) (t := 41) Try.underlying41 hi0 hz0 hz1 hz2 rfl hrow2 (by rw [World.size_alloc]; omega) wr.heap.size 1 [.int .i64 (q : Nat)] rfl (fun j u hu => by
    unfold World.cell?
    dsimp only
    rw [← p4, heap_alloc_new w1 _]
    cases j with
    | zero => simpa using hu
    | succ j => simp at hu) (fun u hu => by rw [List.mem_singleton] at hu; rw [hu]; rfl) (by unfold maxLen; omega) (by omega) ty
  have hall : ∀ b, b < wr.heap.size → b ≠ mb → some b ≠ qv.ownBlock → w2.heap[b]? = wr.heap[b]? := fun b hb hm hq => by
    rw [a3.block b (by rw [World.size_alloc]; omega) hq, heap_alloc_old _ _ (by omega), p3.block b hb (fun e => by injection e with e; exact hm e)]
  have hgr1 : Grew w w1 := grew_grown h.grew p3 fun b e => by injection e with e; omega
  have hgr2 : Grew w w2 := grew_grown (hgr1.alloc _) a3 fun b e => by have := hown b e; omega
  have hs2 := a3.size
  rw [World.size_alloc] at hs2
  refine ⟨v', w2, a1, ?_, ⟨hgr2, ?_, ?_, ?_, fun b hb => ?_, by rw [List.length_append]; have := h.len; simp; omega, hlo.1, hlo.2.1, by omega⟩, hall⟩
  · obtain ⟨_, a, cp, e, _⟩ := a2; exact ⟨a, cp, e⟩
  · rw [hall _ (by omega) (by omega) (fun e => by have := hown _ e.symm; omega)]; exact h.tab
  · have e : txtL (L ++ [(q, t)]) = txtL L ++ [(q, .string v)] := by unfold txtL; rw [List.map_append, hv]; rfl
    rw [e]
    exact (p2.kept ((Grew.refl w1).alloc _)).grown a3 (fun e => by have := hown _ e.symm; omega)
  · rw [qC_snoc (by have := h.len; omega)]; exact a2
  · rcases a4 with e | e
    · rw [e] at hb
      have := h.own b hb
      omega
    · rw [e] at hb; cases hb
      obtain ⟨b', _, _, e2, _, hlt, _⟩ := a2.at (by omega)
      rw [e2] at e; cases e
      exact ⟨by rw [World.size_alloc]; omega, hlt⟩
end
theorem conv_one (c : Nat) (hc : c < 256) (w : World) : (convert 46 9 (.slice (some ⟨w.heap.size, 0, none⟩) 1 1)).run Try.prog (w.alloc (.cells #[.int .u8 (c : Nat)] 5)) = .ok (.string ⟨#[UInt8.ofNat c]⟩) (w.alloc (.cells #[.int .u8 (c : Nat)] 5)) := by
  have := run_convert_bytes_back (P := Try.prog) (w.alloc (.cells #[.int .u8 (c : Nat)] 5)) 46 9 5 ⟨w.heap.size, 0, none⟩ 1 [UInt8.ofNat c] Try.underlying46 Try.underlying5 Try.underlying9 (fun j hj => by
    have hj0 : j = 0 := by simpa using hj
    subst hj0
    rw [addr_add]
    unfold World.cell?
    dsimp only
    rw [heap_alloc_new w _]
    show some (Value.int .u8 (c : Nat)) = some (.int .u8 ((UInt8.ofNat c).toNat : Nat))
    rw [UInt8.toNat_ofNat_of_lt' (by exact hc)])
  exact this
theorem text_snoc (t : List UInt8) (c : UInt8) : (⟨t.toArray⟩ : ByteArray) ++ ⟨#[c]⟩ = ⟨(t ++ [c]).toArray⟩ := by
  apply str_ext
  rw [data_append]
theorem zero_text (w : World) : (zeroValue 9).run Try.prog w = .ok (.string ⟨#[]⟩) w := run_zero (by kernel_rfl) w
set_option maxRecDepth 100000 in
set_option maxHeartbeats 4000000 in
theorem ShortestR_any (A : Aut) (na ea : Option Addr) (nc ec : Nat) (w : World) (h : AutAt w A na ea) : Calls Try.prog 10 #[.agg (autB A na nc ea ec)] w fun e w' => (∃ o, (wrongA A = 0 → Short (raA A) o) ∧ e = .returned (shoV A o)) ∧ Grew w w' := by
  have hB := box_new w A na nc ea ec 26
  have hG := (Grew.refl w).alloc (.cells (autB A na nc ea ec) 26)
  have HWr := hidd (WrongR_any A na ea nc ec _ (h.kept hG))
  have HOf : Hid (∀ w1, Grew w w1 → RightA A → Calls Try.prog 19 #[.agg (autB A na nc ea ec)] w1 _) := fun w1 g hr => Of_any A na ea nc ec w1 (h.kept g) hr
  have HSz := hidd (autB_size A na nc ea ec)
  have HH := hidd (heap_alloc_new w (.cells (autB A na nc ea ec) 26))
  have a1 := autB_next A na nc ea ec
  have a2 := autB_ends A na nc ea ec
  generalize autB A na nc ea ec = av at hB hG a1 a2 HWr HOf HSz HH ⊢
  have HG := hidd hG
  have HA := hidd h
  clear hB hG h
  by_cases h0 : wrongA A = 0
  · have HV : Hid (∀ o, shoV A o = match o with | some t => .tuple #[.string ⟨t.toArray⟩, .int .i64 0] | none => .tuple #[.string ⟨#[]⟩, .int .i64 6]) := fun o => by unfold shoV; rw [if_pos h0]; cases o <;> rfl
    rw [h0] at HWr
    have HR := hidd (wrongA_zero.1 h0)
    obtain ⟨n, hn⟩ : ∃ n, A.next.length = n := ⟨_, rfl⟩
    have HN := hidd hn
    have h9 : n ≤ 8192 := by have := HR.out.n1; omega
    have hp : 0 < n := by have := HR.out.n0; omega
    have HOk := hidd (HR.out.ok HA.out.c256)
    have HRn : Hid ((raA A).n = n) := hn
    have hEl : A.ends.length = n := by rw [HR.out.ne, hn]
    have HEl := hidd hEl
    clear h0
    go_enter Try.func10, Try.ntmps10
    go_wp2_with (refine wpList_load_aut rfl rfl rfl HH.out HSz.out ?_)
    refine HWr.out.mono ?_; rintro e w1 ⟨rfl, g1⟩
    have HH1 := hidd (heap_kept g1 HH.out)
    have HG1 := hidd (HG.out.trans g1)
    clear HWr HH HG g1
    go_wp2_with (refine wpList_load_aut rfl rfl rfl HH1.out HSz.out ?_)
    refine (HOf.out _ HG1.out HR.out).mono ?_; rintro e w2 ⟨qv, rfl, hq, g2⟩
    obtain ⟨qb, qo, qc, rfl, _, hT⟩ := tab_at hq HR.out.n0
    have HT := hidd hT
    have HG2 := hidd (HG1.out.trans g2)
    clear hq hT HOf HH1 HSz HG1 g2
    rw [hn, hEl]
    clear hn hEl a1 a2
    obtain ⟨eb, eo, rfl, _⟩ := (HA.out.kept HG2.out).ends.get (by rw [HEl.out]; omega)
    obtain ⟨T, hTd⟩ : ∃ T, T = Obj.cells #[.slice (some ⟨qb, qo, none⟩) n qc, .slice (some ⟨eb, eo, none⟩) n ec] 44 (0, 0) := ⟨_, rfl⟩
    have HTd := hidd hTd
    obtain ⟨w3, hput, hK3, hg3, hs3⟩ := (KMap.made encI (w2.alloc (.cells #[.slice (some ⟨qb, qo, none⟩) n qc, .slice (some ⟨eb, eo, none⟩) n ec] 44))).put keyI (t := 61) Try.underlying61 (x := 0) (Nat.zero_le _) (by simp) (.string ⟨#[]⟩)
    rw [World.size_alloc] at hput hK3 hg3
    rw [World.size_alloc, World.size_alloc] at hs3
    have HS0 : Hid (Lev w2 (w3.alloc (.cells #[.int .i64 0] 3)) T (w2.heap.size + 1) (w2.heap.size + 2) (bfs (raA A) 0) 0 (.slice (some ⟨w2.heap.size + 2, 0, none⟩) 1 1) 1) := by
      have gr : Grew w2 w3 := grew_grown (((Grew.refl w2).alloc _).alloc _) hg3 fun b e => by injection e with e; omega
      have g4 := (Grew.refl w3).alloc (.cells #[.int .i64 0] 3)
      have hq0 := QRow.made (base := w2.heap.size + 2) (e := 3) (size := 1) w3 #[.int .i64 0] 1 (by rw [hs3]; exact Nat.le_refl _) (by unfold maxLen; omega) rfl
      rw [show w3.heap.size = w2.heap.size + 2 from hs3] at hq0
      refine ⟨gr.trans g4, ?_, hK3.kept g4, hq0, fun b hb => by cases hb; exact ⟨Nat.le_refl _, by rw [World.size_alloc, hs3]; exact Nat.lt_succ_self _⟩, rfl, ⟨by omega, by omega, by rw [World.size_alloc, hs3]; exact Nat.le_succ _⟩⟩
      rw [heap_alloc_old _ _ (by omega), hg3.block _ (by rw [World.size_alloc, World.size_alloc]; omega) (fun e => by injection e with e; omega), heap_alloc_old _ _ (by rw [World.size_alloc]; omega), heap_alloc_new, hTd]
    have hput2 : (Instr.mapUpdate 61 (.map (some (w2.heap.size + 1))) (.int .i64 0) (.string ⟨#[]⟩)).run Try.prog ((w2.alloc (.cells #[.slice (some ⟨qb, qo, none⟩) n qc, .slice (some ⟨eb, eo, none⟩) n ec] 44)).alloc (.map #[] 0)) = .ok () w3 := hput
    have hmm := run_makeMap (P := Try.prog) 61 (w2.alloc (.cells #[.slice (some ⟨qb, qo, none⟩) n qc, .slice (some ⟨eb, eo, none⟩) n ec] 44))
    rw [World.size_alloc] at hmm
    have hs4 : w3.heap.size = w2.heap.size + 2 := hs3
    clear hput hK3 hg3 hs3 hTd
    go_wp2_with fail
    clear hput2 hmm
    generalize w3.alloc (.cells #[.int .i64 0] 3) = W3 at HS0 ⊢
    obtain ⟨tb, htb⟩ : ∃ tb, w2.heap.size = tb := ⟨_, rfl⟩
    have HTb := hidd htb
    rw [htb] at HS0 ⊢
    clear htb hs4
    go_loopw [7] (fun s7 wr => ∃ i k qa qc base, s7 = .slice qa k qc ∧ k ≤ 9000 ∧ Hid (Lev w2 wr T (tb + 1) base (bfs (raA A) i) i (.slice qa k qc) k ∧ shortAt (raA A) i)) (fun s7 wr => n - (mapN wr (tb + 1) - lenV s7))
    case atStart => exact ⟨0, 1, _, _, tb + 2, rfl, by omega, HS0.out, fun j hj => by omega⟩
    case round =>
      obtain ⟨i, k, qa, qc2, base, rfl, hk9, KS⟩ := hrel
      clear HS0
      have hlen := KS.out.1.len
      have hbl := (bfs_ok HOk.out i).le
      rw [HRn.out] at hbl
      have HMe : Hid (mapN wr (tb + 1) = (bfs (raA A) i).length) := by rw [KS.out.1.map.mapN]; unfold txtL; rw [List.length_map]; rfl
      have hd := KS.out.1.tab
      rw [HTd.out, HTb.out] at hd
      obtain ⟨⟨t0, t1⟩, _⟩ := two_cells hd
      by_cases hk : 0 < k
      · have kl : decide ((0 : Int) < (k : Int)) = true := decide_eq_true (by omega)
        obtain ⟨nb, no, nc2, e, hnb1, hnb2, _, _, hqc⟩ := KS.out.1.row.at (by omega)
        cases e
        have HNow : Hid (∀ j, j < k → ∃ s t, (bfs (raA A) i)[i + j]? = some (s, t) ∧ (s, t) ∈ bfs (raA A) i ∧ s < n ∧ wr.cell? ⟨nb, no + j, none⟩ = some (.int .i64 (s : Nat))) := fun j hj => by
          have hlt : i + j < (bfs (raA A) i).length := by omega
          refine ⟨_, _, List.getElem?_eq_getElem hlt, List.getElem_mem hlt, by rw [← HRn.out]; exact (bfs_ok HOk.out i).lt _ (List.getElem_mem hlt), hqc j _ (by omega) ?_⟩
          unfold qC
          rw [List.getElem?_map, List.getElem?_drop, List.getElem?_eq_getElem hlt]; rfl
        have HKS := hidd KS.out
        clear KS hqc hd
        go_wp2_with fail
        obtain ⟨w0, rfl⟩ : ∃ w0, w0 = wr := ⟨_, rfl⟩
        go_loopw [32] (fun s32 wr => ∃ j : Nat, s32 = .int .i64 j ∧ j ≤ k ∧ Hid (wr = w0 ∧ shortAt (raA A) (i + j))) (fun s32 _ => k - (intOf s32).toNat)
        case atStart => exact ⟨0, rfl, by omega, rfl, HKS.out.2⟩
        case round =>
          obtain ⟨j, rfl, hj, JS⟩ := hrel
          obtain ⟨rfl, hsh⟩ := JS.out
          have HSh := hidd hsh
          clear hsh JS
          by_cases hjl : j < k
          · have kj : decide ((j : Int) < (k : Int)) = true := decide_eq_true (by omega)
            obtain ⟨s, t, hst, hsm, hsn, c0⟩ := HNow.out j hjl
            have HSt := hidd hst
            obtain ⟨eb2, eo2, e2, he⟩ := (HA.out.kept (HG2.out.trans HKS.out.1.grew)).ends.get (by rw [HEl.out]; omega)
            cases e2
            have ce := he s (by rw [HEl.out]; exact hsn)
            have HEn : Hid (A.ends.getD s false = (raA A).en s) := rfl
            have HAt : Hid ((bfs (raA A) (i + j))[i + j]? = some (s, t)) := by rw [bfs_get (raA A) (Nat.le_add_right i j) (by omega)]; exact hst
            have hlook : (Instr.lookup 61 (.map (some (tb + 1))) (.int .i64 (s : Nat)) false).run Try.prog wr = .ok (.string ⟨t.toArray⟩) wr := HKS.out.1.map.lookS keyI Try.underlying61 (List.mem_map.2 ⟨(s, t), hsm, rfl⟩) false
            clear he hst
            cases hb : A.ends.getD s false with
            | true =>
              rw [hb] at ce HEn
              clear hb
              go_wp2_with fail
              refine bodyPost_ret (results_tmp2 rfl _ _ _) rfl ⟨⟨some t, fun _ => Short.found (i + j) s t HSh.out HAt.out HEn.out.symm, ?_⟩, HG2.out.trans HKS.out.1.grew⟩
              rw [HV.out]; rfl
            | false =>
              rw [hb] at ce HEn
              clear hb hlook
              have HS2 : Hid (shortAt (raA A) (i + (j + 1))) := fun m hm => by
                by_cases e : m < i + j
                · exact HSh.out m e
                · have : m = i + j := by omega
                  rw [this]; exact ⟨s, t, HAt.out, HEn.out.symm⟩
              go_wp2_with fail
              exact ⟨⟨j + 1, by simp, by omega, trivial, HS2.out⟩, by simp [intOf]; omega⟩
          · obtain rfl : j = k := by omega
            have kj : decide ((j : Int) < (j : Int)) = false := decide_eq_false (by omega)
            go_wp2_with fail
            have hlo := HKS.out.1.lo
            obtain ⟨B, hB⟩ : ∃ B, wr.heap.size = B := ⟨_, rfl⟩
            have HS0 : Hid (Lev w2 wr T (tb + 1) B (bfs (raA A) (i + 0)) (i + j) (.slice none 0 0) 0 ∧ wr.heap[nb]? = wr.heap[nb]?) := by
              refine ⟨⟨HKS.out.1.grew, HKS.out.1.tab, HKS.out.1.map, ⟨?_, none, 0, rfl, Nat.le_refl _, Nat.zero_le _, fun h => absurd h (by omega)⟩, fun b hb => (by cases hb), ?_, ⟨hlo.1, by omega, by rw [hB]; exact Nat.le_refl _⟩⟩, rfl⟩
              · rw [qC_len, Nat.add_zero]; omega
              · rw [Nat.add_zero]; omega
            obtain ⟨w0, rfl⟩ : ∃ w0, w0 = wr := ⟨_, rfl⟩
            have HB := hidd hB
            have HLo := hidd hlo
            clear t0 t1 hB
            go_loopw [10, 47] (fun s10 s47 wr => ∃ m k2 qa qc, s47 = .int .i64 (m : Nat) ∧ m ≤ j ∧ s10 = .slice qa k2 qc ∧ k2 ≤ 9000 ∧ Hid (Lev w2 wr T (tb + 1) B (bfs (raA A) (i + m)) (i + j) (.slice qa k2 qc) k2 ∧ wr.heap[nb]? = w0.heap[nb]?)) (fun _ s47 _ => j - (intOf s47).toNat)
            case atStart => exact ⟨0, 0, _, _, rfl, by omega, rfl, by omega, HS0.out⟩
            case round =>
              obtain ⟨m, k2, qa, qc3, rfl, hm, rfl, hk2, MS⟩ := hrel
              clear HS0
              by_cases hml : m < j
              · have km : decide ((m : Int) < (j : Int)) = true := decide_eq_true (by omega)
                obtain ⟨s, t, hst, hsm, hsn, hc0⟩ := HNow.out m hml
                have c0 : wr.cell? ⟨nb, no + m, none⟩ = some (.int .i64 (s : Nat)) := by rw [World.cell?_of_block (a := ⟨nb, no + m, none⟩) MS.out.2]; exact hc0
                have HAt : Hid ((bfs (raA A) (i + m))[i + m]? = some (s, t)) := by rw [bfs_get (raA A) (Nat.le_add_right i m) (by omega)]; exact hst
                have HBs : Hid (bfs (raA A) (i + (m + 1)) = addUp ((raA A).nx s) t (bfs (raA A) (i + m)) 256) := bfs_succ HAt.out
                have HOkU : Hid (∀ c, c ≤ 256 → BfsOk n (addUp ((raA A).nx s) t (bfs (raA A) (i + m)) c) ∧ (s, t) ∈ addUp ((raA A).nx s) t (bfs (raA A) (i + m)) c) := fun c hc => by
                  obtain ⟨r, hr⟩ := addUp_pre ((raA A).nx s) t (bfs (raA A) (i + m)) c
                  refine ⟨by rw [← HRn.out]; exact (bfs_ok HOk.out (i + m)).addUp c fun d hd => HOk.out.nx s d (by rw [HRn.out]; exact hsn) (by omega), by rw [hr]; exact List.mem_append_left _ (List.mem_of_getElem? HAt.out)⟩
                have HTl : Hid (t.length ≤ 8192) := by
                  have h1 := bfs_txt (raA A) (i + m) _ (List.mem_of_getElem? HAt.out)
                  have h1 : t.length ≤ i + m := h1
                  have h2 : i + m < n := by omega
                  exact Nat.le_trans h1 (by omega)
                have HI0 : Hid (Lev w2 wr T (tb + 1) B (addUp ((raA A).nx s) t (bfs (raA A) (i + m)) 0) (i + j) (.slice qa k2 qc3) k2 ∧ wr.heap[nb]? = w0.heap[nb]?) := MS.out
                clear hst hsm hc0
                go_wp2_with fail
                clear c0
                obtain ⟨wq, rfl⟩ : ∃ wq, wq = wr := ⟨_, rfl⟩
                clear MS
                go_loopw [10, 13] (fun s10 s13 wr => ∃ c k2 qa qc, s13 = .int .i64 (c : Nat) ∧ c ≤ 256 ∧ s10 = .slice qa k2 qc ∧ k2 ≤ 9000 ∧ Hid (Lev w2 wr T (tb + 1) B (addUp ((raA A).nx s) t (bfs (raA A) (i + m)) c) (i + j) (.slice qa k2 qc) k2 ∧ wr.heap[nb]? = w0.heap[nb]?)) (fun _ s13 _ => 256 - (intOf s13).toNat)
                case atStart => exact ⟨0, k2, _, _, rfl, by omega, rfl, by omega, HI0.out⟩
                case round =>
                  obtain ⟨c, k3, qa3, qc4, rfl, hc, rfl, hk3, JS⟩ := hrel
                  clear HI0
                  have hkn : k3 ≤ n := by have := JS.out.1.len; have h2 := (HOkU.out c hc).1.le; omega
                  by_cases hcl : c < 256
                  · have kc : decide ((c : Int) < 256) = true := decide_eq_true (by omega)
                    have hcw : (c : Int) % 256 = (c : Int) := by omega
                    have hcl2 : (c : Int) < 256 := by omega
                    have HQ : Hid ((raA A).nx s c = stepA A s c ∧ stepA A s c < n) := ⟨rfl, by rw [← HRn.out]; exact HOk.out.nx s c (by rw [HRn.out]; exact hsn) hcl⟩
                    have HAd : Hid (addUp ((raA A).nx s) t (bfs (raA A) (i + m)) (c + 1) = if stepA A s c ∈ (addUp ((raA A).nx s) t (bfs (raA A) (i + m)) c).map (·.1) then addUp ((raA A).nx s) t (bfs (raA A) (i + m)) c else addUp ((raA A).nx s) t (bfs (raA A) (i + m)) c ++ [(stepA A s c, t ++ [UInt8.ofNat c])]) := by rw [addUp_succ]; rfl
                    have HMs : Hid ((s, t) ∈ addUp ((raA A).nx s) t (bfs (raA A) (i + m)) c) := (HOkU.out c hc).2
                    have ct := (HT.out.kept JS.out.1.grew) s c (by rw [HN.out]; exact hsn) hcl
                    rw [(stepI_nat HR.out HA.out.c256 (by rw [HN.out]; exact hsn) hcl).1] at ct
                    have hd := JS.out.1.tab
                    rw [HTd.out, HTb.out] at hd
                    obtain ⟨⟨t0, t1⟩, _⟩ := two_cells hd
                    generalize addUp ((raA A).nx s) t (bfs (raA A) (i + m)) c = Lc at JS HAd HMs
                    generalize stepA A s c = q at ct HQ HAd
                    by_cases hq : q ∈ Lc.map (·.1)
                    · have HA2 : Hid (addUp ((raA A).nx s) t (bfs (raA A) (i + m)) (c + 1) = Lc) := by rw [HAd.out, if_pos hq]; rfl
                      obtain ⟨x, hx, hxe⟩ := List.mem_map.1 hq
                      have hlook : (Instr.lookup 61 (.map (some (tb + 1))) (.int .i64 (q : Nat)) true).run Try.prog wr = .ok (.tuple #[.string ⟨x.2.toArray⟩, .bool true]) wr := JS.out.1.map.lookS keyI Try.underlying61 (List.mem_map.2 ⟨x, hx, by rw [hxe]⟩) true
                      clear hx hxe hd t1
                      go_wp2_with fail
                      exact ⟨⟨c + 1, k3, _, _, by simp, by omega, rfl, hk3, by rw [HA2.out]; exact JS.out⟩, by simp [intOf]; omega⟩
                    · have HA2 : Hid (addUp ((raA A).nx s) t (bfs (raA A) (i + m)) (c + 1) = Lc ++ [(q, t ++ [UInt8.ofNat c])]) := by rw [HAd.out, if_neg hq]; rfl
                      have hlook : (Instr.lookup 61 (.map (some (tb + 1))) (.int .i64 (q : Nat)) true).run Try.prog wr = .ok (.tuple #[.string ⟨#[]⟩, .bool false]) wr := JS.out.1.map.lookN keyI Try.underlying61 (zero_text wr) (show q ≤ 9223372036854775807 by have := HQ.out.2; omega) (by rw [txtL_fst]; exact hq) true
                      obtain ⟨ts, hts⟩ : ∃ ts : ByteArray, ts = ⟨t.toArray⟩ := ⟨_, rfl⟩
                      have hlook2 : (Instr.lookup 61 (.map (some (tb + 1))) (.int .i64 (s : Nat)) false).run Try.prog wr = .ok (.string ts) wr := by rw [hts]; exact JS.out.1.map.lookS keyI Try.underlying61 (List.mem_map.2 ⟨(s, t), HMs.out, rfl⟩) false
                      have hsz : ts.size ≤ 8192 := by rw [hts]; show t.toArray.size ≤ 8192; simpa using HTl.out
                      have hcv := conv_one c hcl wr
                      obtain ⟨u, hu⟩ : ∃ u : ByteArray, u = ⟨#[UInt8.ofNat c]⟩ := ⟨_, rfl⟩
                      have husz : u.size = 1 := by rw [hu]; rfl
                      obtain ⟨w6, hput, hs6, v', w7, hap, ⟨va, vc, rfl⟩, hS7, hall⟩ := (JS.out.1.kept ((Grew.refl wr).alloc (.cells #[.int .u8 (c : Nat)] 5))).add (v := ts ++ u) (t := t ++ [UInt8.ofNat c]) (by rw [hts, hu, text_snoc]) hq (by have := HQ.out.2; omega) (by omega) 41
                      rw [← hs6] at hap
                      rw [← hu] at hcv
                      have HS7 : Hid (Lev w2 w7 T (tb + 1) B (Lc ++ [(q, t ++ [UInt8.ofNat c])]) (i + j) (.slice va (k3 + 1) vc) (k3 + 1) ∧ w7.heap[nb]? = w0.heap[nb]?) := by
                        refine ⟨hS7, ?_⟩
                        have h1 := JS.out.1.lo
                        have h2 := HLo.out
                        have h3 : nb < B := by rw [← HB.out]; exact hnb2
                        rw [hall nb (by rw [World.size_alloc]; omega) (by omega) (fun e => by have := (JS.out.1.own nb e.symm).1; omega), heap_alloc_old _ _ (by omega)]
                        exact JS.out.2
                      clear hS7 hs6 hd t1 hall hts hu
                      go_wp2_with (first | (at_builtin; refine wpList_append_eq rfl rfl rfl rfl hap ?_))
                      exact ⟨⟨c + 1, k3 + 1, _, _, by simp, by omega, rfl, by omega, by rw [HA2.out]; exact HS7.out⟩, by simp [intOf]; omega⟩
                  · obtain rfl : c = 256 := by omega
                    have kc : decide ((256 : Int) < 256) = false := rfl
                    go_wp2_with fail
                    exact ⟨⟨m + 1, k3, _, _, by simp, by omega, rfl, hk3, by rw [HBs.out]; exact JS.out⟩, by simp [intOf]; omega⟩
              · obtain rfl : m = j := by omega
                have km : decide ((m : Int) < (m : Int)) = false := decide_eq_false (by omega)
                have HM2 : Hid (mapN wr (tb + 1) = k2 + (i + m)) := by rw [MS.out.1.map.mapN, MS.out.1.len]; unfold txtL; rw [List.length_map]; rfl
                go_wp2_with fail
                refine ⟨⟨i + m, k2, qa, qc3, B, rfl, hk2, MS.out.1, HSh.out⟩, ?_⟩
                show n - (mapN wr (tb + 1) - k2) < n - (mapN w0 (tb + 1) - m)
                rw [HM2.out, HMe.out]
                omega
      · obtain rfl : k = 0 := by omega
        have kl : decide ((0 : Int) < ((0 : Nat) : Int)) = false := rfl
        have HNo : Hid ((bfs (raA A) i)[i]? = none) := List.getElem?_eq_none (by omega)
        go_wp2_with fail
        refine bodyPost_ret (results_tmp2 rfl _ _ _) rfl ⟨⟨none, fun _ => Short.none i KS.out.2 HNo.out, ?_⟩, HG2.out.trans KS.out.1.grew⟩
        rw [HV.out]; rfl
  · have HV : Hid (shoV A none = .tuple #[.string ⟨#[]⟩, .int .i64 (wrongA A)]) := by unfold shoV; rw [if_neg h0]; rfl
    obtain ⟨W, hW⟩ : ∃ W, wrongA A = W := ⟨_, rfl⟩
    have HNe : Hid (wrongA A ≠ 0) := h0
    rw [hW] at h0 HWr HV
    have k1 : (W != 0) = true := by simpa using h0
    clear hW h0
    go_enter Try.func10, Try.ntmps10
    go_wp2_with (refine wpList_load_aut rfl rfl rfl HH.out HSz.out ?_)
    refine HWr.out.mono ?_; rintro e w1 ⟨rfl, g1⟩
    go_wp2_with fail
    exact bodyPost_ret (results_tmp2 rfl _ _ _) rfl ⟨⟨none, fun h => absurd h HNe.out, by rw [HV.out]; rfl⟩, HG.out.trans g1⟩
end Go.Proofs.Ytkkdpafkafjfgaa
