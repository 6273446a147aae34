/- The shortest text that is taken: the program's Shortest. -/
import Derived.Test.YtkkdpafkafjfgaaDoorShAuI
namespace Go.Proofs.YtkkdpafkafjfgaaDoor
open Go.RowKit
set_option linter.unusedVariables false
set_option maxRecDepth 100000
def shoV (A : Aut) (o : Option (List UInt8)) : Value := if wrongA A = 0 then match o with | some t => .tuple #[.string ⟨t.toArray⟩, .int .i64 0] | none => .tuple #[.string ⟨#[]⟩, .int .i64 6] else .tuple #[.string ⟨#[]⟩, .int .i64 (wrongA A)]
def Ent (L : List (Nat × List UInt8)) (t : List UInt8) (st : Int) (c : Nat) : Prop := (t = [] ∧ st = -1) ∨ ∃ p t' ch, t = t' ++ [ch] ∧ (p, t') ∈ L ∧ st = (p : Nat) ∧ c = ch.toNat
theorem Cam.look {L : List (Nat × List UInt8)} {l : List (Nat × Value)} (h : Cam L l) {s : Nat} {t : List UInt8} (hs : (s, t) ∈ L) : ∃ st c, (s, fromV st c) ∈ l ∧ Ent L t st c := by
  rcases h.come s t hs with ⟨a, b⟩ | ⟨p, t', c, a, b, d⟩
  · exact ⟨-1, 0, b, Or.inl ⟨a, rfl⟩⟩
  · exact ⟨p, c.toNat, d, Or.inr ⟨p, t', c, a, b, rfl, rfl⟩⟩
structure Bck (w wr : World) (mb : Nat) (L : List (Nat × List UInt8)) (bb fb : Nat) (st : Int) (c : Nat) (sf : List UInt8) : Prop where
  grew : Grew w wr
  map : ∃ l, KMap encI wr mb l ∧ Cam L l
  frm : wr.heap[fb]? = some (.cells #[.int .i64 st, .int .u8 c] 106 (0, 0))
  bld : Lib.IsBuilder 111 5 bb bb (Lib.byteCells sf.reverse) wr
  lo : w.heap.size ≤ bb ∧ bb < wr.heap.size ∧ mb ≠ bb
section
variable {w wr w' : World} {mb bb fb c : Nat} {L : List (Nat × List UInt8)} {st : Int} {sf : List UInt8}
theorem Bck.wrote (h : Bck w wr mb L bb fb st c sf) {ch : UInt8} (hb : Lib.BuilderAt 111 5 bb bb (.pointer (some ⟨bb, 0, none⟩)) (Lib.byteCells sf.reverse ++ [.int .u8 ch.toNat]) w') (g : Below bb wr w')
    (hk : ∀ k, k < wr.heap.size → k ≠ bb → (∀ cs fr, wr.heap[k]? ≠ some (.cells cs 5 fr)) → w'.heap[k]? = wr.heap[k]?) : Bck w w' mb L bb fb st c (ch :: sf) := by
  have hne : fb ≠ bb := fun e => by
    have h1 := h.frm
    rw [e] at h1
    rcases h.bld with ⟨_, v, hv, _⟩ | ⟨_, v, hv, _⟩ <;> · rw [hv] at h1; cases h1
  have hfl := (Array.getElem?_eq_some_iff.1 h.frm).1
  refine ⟨h.grew.below g h.lo.1, ?_, ?_, Or.inr ?_, ⟨h.lo.1, Nat.lt_of_lt_of_le h.lo.2.1 g.size, h.lo.2.2⟩⟩
  · obtain ⟨l, h1, h2⟩ := h.map
    refine ⟨l, h1.block (hk mb h1.lt h.lo.2.2 fun cs fr e => ?_), h2⟩
    obtain ⟨_, _, hb, _⟩ := h1.rep
    rw [hb] at e; cases e
  · rw [hk fb hfl hne fun cs fr e => by rw [h.frm] at e; cases e]; exact h.frm
  · have e : Lib.byteCells (ch :: sf).reverse = Lib.byteCells sf.reverse ++ [.int .u8 ch.toNat] := by simp [Lib.byteCells]
    rw [e]; exact hb
theorem Bck.next (h : Bck w wr mb L bb fb st c sf) (st' : Int) (c' : Nat) : Bck w (wr.alloc (.cells #[.int .i64 st', .int .u8 c'] 106)) mb L bb wr.heap.size st' c' sf := by
  have g := (Grew.refl wr).alloc (.cells #[.int .i64 st', .int .u8 c'] 106)
  refine ⟨h.grew.trans g, ?_, heap_alloc_new _ _, ?_, ⟨h.lo.1, Nat.lt_of_lt_of_le h.lo.2.1 g.size, h.lo.2.2⟩⟩
  · obtain ⟨l, h1, h2⟩ := h.map
    exact ⟨l, h1.kept g, h2⟩
  · rcases h.bld with ⟨h1, v, h2, h3, h4⟩ | ⟨h1, v, h2, h3, h4⟩
    · exact Or.inl ⟨h1, v, heap_more h2, h3.alloc _, h4⟩
    · exact Or.inr ⟨h1, v, heap_more h2, h3.alloc _, h4⟩
theorem Bck.start {A : Aut} {na ea : Option Addr} {nc ec i k : Nat} {qv : Value} (h : Sho w wr A na nc ea ec mb L i qv k) (st' : Int) (c' : Nat) :
    Bck w ((wr.alloc (.cells #[.pointer none, .slice none 0 0] 111)).alloc (.cells #[.int .i64 st', .int .u8 c'] 106)) mb L wr.heap.size (wr.heap.size + 1) st' c' [] := by
  have g := ((Grew.refl wr).alloc (.cells #[.pointer none, .slice none 0 0] 111)).alloc (.cells #[.int .i64 st', .int .u8 c'] 106)
  have e := heap_alloc_new (wr.alloc (.cells #[.pointer none, .slice none 0 0] 111)) (.cells #[.int .i64 st', .int .u8 c'] 106)
  rw [World.size_alloc] at e
  refine ⟨h.grew.trans g, ?_, e, Or.inl ⟨Nat.le_refl _, .slice none 0 0, heap_more (heap_alloc_new wr _), ⟨rfl, Or.inl ⟨rfl, rfl⟩⟩, by simp [Value.ownBlock]⟩, h.grew.size, by rw [World.size_alloc, World.size_alloc]; omega, by have := h.mlt; omega⟩
  obtain ⟨l, h1, h2⟩ := h.map
  exact ⟨l, h1.kept g, h2⟩
theorem byteCells_len (l : List UInt8) : (Lib.byteCells l).length = l.length := by simp [Lib.byteCells]
end
theorem lookup_at {A : RA} {i : Nat} (h : i < (bfs A i).length) : ∃ s t, (bfs A i)[i]? = some (s, t) ∧ (s, t) ∈ bfs A i :=
  ⟨_, _, List.getElem?_eq_getElem h, List.getElem_mem h⟩
theorem bfs_txt (A : RA) : ∀ i, ∀ x ∈ bfs A i, x.2.length ≤ i
  | 0, x, hx => by rw [bfs, List.mem_singleton] at hx; rw [hx]; exact Nat.le_refl _
  | i + 1, x, hx => by
    rw [bfs] at hx
    split at hx
    · rename_i s t h
      have ht := bfs_txt A i _ (List.mem_of_getElem? h)
      have key : ∀ m, ∀ x ∈ addUp (A.nx s) t (bfs A i) m, x.2.length ≤ i + 1 := fun m => by
        induction m with
        | zero => intro x hx; have := bfs_txt A i x hx; omega
        | succ m ih =>
          intro x hx
          rw [addUp_succ] at hx
          unfold addTo at hx
          split at hx
          · exact ih x hx
          · rcases List.mem_append.1 hx with hx | hx
            · exact ih x hx
            · rw [List.mem_singleton] at hx; rw [hx, List.length_append]; simp; exact ht
      exact key 256 x hx
    · have := bfs_txt A i x hx; omega
set_option maxRecDepth 100000 in
set_option maxHeartbeats 4000000 in
theorem Shortest_any (A : Aut) (na ea : Option Addr) (nc ec : Nat) (w : World) (h : AutAt w A na ea) : Calls Tryd.prog 20 #[.agg (autB A na nc ea ec)] w fun e w' => (∃ o, (wrongA A = 0 → Short (raA A) o) ∧ e = .returned (shoV A o)) ∧ Grew w w' := by
  have hB := box_new w A na nc ea ec 30
  have hG := (Grew.refl w).alloc (.cells (autB A na nc ea ec) 30)
  have HWr := hidd (AWrong_any A na ea nc ec _ (h.kept hG))
  have HSz := hidd (autB_size A na nc ea ec)
  have HH := hidd (heap_alloc_new w (.cells (autB A na nc ea ec) 30))
  have a1 := autB_next A na nc ea ec
  have a2 := autB_ends A na nc ea ec
  generalize autB A na nc ea ec = av at hB hG a1 a2 HWr HSz HH ⊢
  have HB := hidd hB
  have HG := hidd hG
  have HA := hidd h
  clear hB hG h
  by_cases h0 : wrongA A = 0
  · have HV : Hid (∀ o, shoV A o = match o with | some t => .tuple #[.string ⟨t.toArray⟩, .int .i64 0] | none => .tuple #[.string ⟨#[]⟩, .int .i64 6]) := fun o => by unfold shoV; rw [if_pos h0]
    rw [h0] at HWr
    have HR := hidd (wrongA_zero.1 h0)
    obtain ⟨n, hn⟩ : ∃ n, A.next.length = n := ⟨_, rfl⟩
    have HN := hidd hn
    have h9 : n ≤ 8192 := by have := HR.out.n1; omega
    have hp : 0 < n := by have := HR.out.n0; omega
    have HOk := hidd (HR.out.ok HA.out.c256)
    have HRn : Hid ((raA A).n = n) := hn
    clear h0 hn
    go_enter Tryd.func20, Tryd.ntmps20
    go_wp2_with (refine wpList_load_aut rfl rfl rfl HH.out HSz.out ?_)
    refine HWr.out.mono ?_; rintro e w1 ⟨rfl, g1⟩
    have HG1 := hidd (HG.out.trans g1)
    have HB1 := hidd (HB.out.kept g1)
    have hs1 : w.heap.size < w1.heap.size := by have := g1.size; rw [World.size_alloc] at this; omega
    clear HB HG HWr HH HSz g1 a1 a2
    obtain ⟨w2, hput, hK2, hg2, hs2⟩ := (KMap.made encI w1).put keyI (t := 107) Tryd.underlying107 (x := 0) (Nat.zero_le _) (by simp) (fromV (-1) 0)
    have hput2 : (Instr.mapUpdate 107 (.map (some w1.heap.size)) (.int .i64 0) (.agg #[.int .i64 (-1), .int .u8 0])).run Tryd.prog (w1.alloc (.map #[] 0)) = .ok () w2 := hput
    have HS0 : Hid (Sho w (w2.alloc (.cells #[.int .i64 0] 3)) A na nc ea ec w1.heap.size (bfs (raA A) 0) 0 (.slice (some ⟨w2.heap.size, 0, none⟩) 1 1) 1) := by
      have gr : Grew w1 w2 := grew_grown ((Grew.refl w1).alloc _) hg2 fun b e => by injection e with e; omega
      have g3 := (Grew.refl w2).alloc (.cells #[.int .i64 0] 3)
      refine ⟨(HG1.out.trans gr).trans g3, HB1.out.kept (gr.trans g3), HA.out, ⟨_, hK2.kept g3, Cam.start⟩, QRow.made (e := 3) (size := 1) w2 #[.int .i64 0] 1 (by rw [hs2, World.size_alloc]; exact Nat.le_refl _) (by unfold maxLen; omega) rfl, fun b hb => by cases hb; exact ⟨by show w1.heap.size + 1 ≤ w2.heap.size; rw [hs2, World.size_alloc]; exact Nat.le_refl _, by rw [World.size_alloc]; exact Nat.lt_succ_self _⟩, rfl, hs1⟩
    have hs3 : w2.heap.size = w1.heap.size + 1 := by rw [hs2, World.size_alloc]
    rw [hs3] at HS0
    have hmm := run_makeMap (P := Tryd.prog) 107 w1
    clear hput hK2 hg2
    go_wp2_with fail
    clear hput2 hmm
    generalize w2.alloc (.cells #[.int .i64 0] 3) = W2 at HS0 ⊢
    obtain ⟨mb, hmb⟩ : ∃ mb, w1.heap.size = mb := ⟨_, rfl⟩
    rw [hmb] at HS0 ⊢
    clear hmb hs2 hs1 hs3
    go_loopw [6] (fun s6 wr => ∃ i k qa qc, s6 = .slice qa k qc ∧ k ≤ 9000 ∧ Hid (Sho w wr A na nc ea ec mb (bfs (raA A) i) i (.slice qa k qc) k ∧ shortAt (raA A) i)) (fun s6 wr => n - (mapN wr mb - lenV s6))
    case atStart => exact ⟨0, 1, _, _, rfl, by omega, HS0.out, fun j hj => by omega⟩
    case round =>
      obtain ⟨i, k, qa, qc, rfl, hk9, KS⟩ := hrel
      clear HS0
      have hlen := KS.out.1.len
      have hbl := (bfs_ok HOk.out i).le
      rw [HRn.out] at hbl
      have HMe : Hid (mapN wr mb = (bfs (raA A) i).length) := by
        obtain ⟨l, h1, h2⟩ := KS.out.1.map
        have := congrArg List.length h2.keys
        rw [List.length_map, List.length_map] at this
        rw [h1.mapN, this]; rfl
      by_cases hk : 0 < k
      · obtain ⟨k, rfl⟩ : ∃ k', k = k' + 1 := ⟨k - 1, by omega⟩
        have kl : decide ((0 : Int) < ((k + 1 : Nat) : Int)) = true := decide_eq_true (by omega)
        obtain ⟨s, t, hst, hsm⟩ := lookup_at (A := raA A) (i := i) (by omega)
        obtain ⟨qb, qo, qc', e, _, _, _, _, hqc⟩ := KS.out.1.row.at (by omega)
        cases e
        have c0 := hqc 0 _ (by omega) (qC_head (L := bfs (raA A) i) (i := i) (by omega))
        rw [List.getElem?_eq_getElem (by omega)] at hst
        rw [Option.some.inj hst, Nat.add_zero] at c0
        have HSt : Hid ((bfs (raA A) i)[i]? = some (s, t)) := by rw [List.getElem?_eq_getElem (by omega)]; exact hst
        have hsn : s < n := by rw [← HRn.out]; exact (bfs_ok HOk.out i).lt _ hsm
        have HSm := hidd hsm
        have hh := KS.out.1.held
        have cx := hh.box.en
        obtain ⟨eb, eo, rfl, he⟩ := hh.rows.ends.get (by rw [HR.out.ne, HN.out]; omega)
        have ce := he s (by rw [HR.out.ne, HN.out]; exact hsn)
        rw [HR.out.ne, HN.out] at cx
        have HKS := hidd KS.out
        have HEn : Hid (A.ends.getD s false = (raA A).en s) := rfl
        clear hh he hqc hst hsm KS
        cases hb : A.ends.getD s false with
        | true =>
          rw [hb] at ce HEn
          obtain ⟨l, hm, hcam⟩ := HKS.out.1.map
          obtain ⟨st, c, hl, hent⟩ := hcam.look HSm.out
          have hlook : ∀ o, (Instr.lookup 107 (.map (some mb)) (.int .i64 (s : Nat)) false).run Tryd.prog (wr.alloc o) = .ok (.agg #[.int .i64 st, .int .u8 c]) (wr.alloc o) := fun o => (hm.kept ((Grew.refl wr).alloc o)).lookS keyI Tryd.underlying107 hl false
          have HB0 : Hid (Bck w ((wr.alloc (.cells #[.pointer none, .slice none 0 0] 111)).alloc (.cells #[.int .i64 st, .int .u8 c] 106)) mb (bfs (raA A) i) wr.heap.size (wr.heap.size + 1) st c [] ∧ Ent (bfs (raA A) i) t st c) := ⟨Bck.start HKS.out.1 st c, hent⟩
          have HTl : Hid (t.length ≤ 8192) := by
            have h1 := bfs_txt (raA A) i _ HSm.out
            have h2 : i < n := by omega
            exact Nat.le_trans (show t.length ≤ i from h1) (by omega)
          clear hm hcam hl hent hb
          go_wp2_with fail
          clear hlook cx ce c0
          generalize (wr.alloc (.cells #[.pointer none, .slice none 0 0] 111)).alloc (.cells #[.int .i64 st, .int .u8 c] 106) = W3 at HB0 ⊢
          obtain ⟨bb, hbb⟩ : ∃ bb, wr.heap.size = bb := ⟨_, rfl⟩
          rw [hbb] at HB0 ⊢
          obtain ⟨L, hL⟩ : ∃ L, bfs (raA A) i = L := ⟨_, rfl⟩
          rw [hL] at HB0
          clear hbb
          go_loopw [9] (fun s9 wx => ∃ fb st c, s9 = .pointer (some ⟨fb, 0, none⟩) ∧ Hid (∃ tx sf, Bck w wx mb L bb fb st c sf ∧ Ent L tx st c ∧ t = tx ++ sf)) (fun s9 wx => t.length - bufN wx bb)
          case atStart => exact ⟨bb + 1, st, c, rfl, t, [], HB0.out.1, HB0.out.2, by simp⟩
          case round =>
            obtain ⟨fb, st, c, rfl, KB⟩ := hrel
            clear HB0
            obtain ⟨tx, sf, hB, hE, hT⟩ := KB.out
            have HB := hidd hB
            have HT := hidd hT
            obtain ⟨⟨f0, f1⟩, ff⟩ := two_cells hB.frm
            have ff0 := ff 0
            have ff1 := ff 1
            have hbw := hB.lo.2.1
            clear hB hT KB ff
            rcases hE with ⟨rfl, rfl⟩ | ⟨p, t', ch, rfl, hp, rfl, rfl⟩
            · go_wp2_with fail
              refine (Tryd.Builder_String_any bb bb sf.reverse _ HB.out.bld (Nat.le_of_lt hbw)).mono ?_
              rintro e w4 ⟨he, g4⟩
              obtain ⟨r, hr⟩ : ∃ r : ByteArray, r = ⟨sf.reverse.toArray⟩ := ⟨_, rfl⟩
              rw [← hr] at he
              subst he
              have HRd : Hid (r.data.toList = sf.reverse) := by rw [hr]; exact rfl
              have hsl : r.size ≤ 8192 := by
                have h1 := HTl.out
                have h2 : r.size = r.data.toList.length := rfl
                rw [h2, HRd.out, List.length_reverse]
                rw [HT.out] at h1
                simpa using h1
              clear hr
              have hbo := bytesOf w4 r
              go_wp2_with fail
              have hl : r.data.toList.length = r.size := rfl
              have hB0 := bytesAt_row w4 r (grownCap w4 r.size 0 5) 5
              refine (rev_bytes r.data.toList w4.heap.size 0 _ _ hB0.drew (by rw [hl]; omega)).mono ?_
              rintro e w5 ⟨rfl, hB5, hbel⟩
              have hconv : ∀ cap, (convert 109 9 (.slice (some ⟨w4.heap.size, 0, none⟩) r.size cap)).run Tryd.prog w5 = .ok (.string ⟨sf.toArray⟩) w5 := fun cap => by
                have := hB5.conv (cap := cap)
                rw [List.length_reverse, hl, HRd.out, List.reverse_reverse] at this
                exact this
              go_wp2_with fail
              refine bodyPost_ret (results_tmp2 rfl _ _ _) rfl ⟨⟨some t, fun _ => Short.found i s t HKS.out.2 HSt.out HEn.out.symm, ?_⟩, ?_⟩
              · rw [HV.out, HT.out]; rfl
              · exact (HB.out.grew.below g4 HB.out.lo.1).below (((Below.refl w4.heap.size w4).drew.alloc (Nat.le_refl _) _).trans hbel) (Nat.le_trans HB.out.grew.size g4.size)
            · have hbl : (Lib.byteCells sf.reverse).length + 1 ≤ 140737488355328 := by
                have := HTl.out
                rw [HT.out] at this
                rw [byteCells_len, List.length_reverse]
                simp at this
                omega
              have kg : decide ((0 : Int) ≤ (p : Int)) = true := decide_eq_true (by omega)
              go_wp2_with fail
              refine (WriteByte_any bb bb (Lib.byteCells sf.reverse) ch.toNat _ HB.out.bld hbl (Nat.le_of_lt hbw)).mono ?_
              rintro e w4 ⟨rfl, hb4, g4, k4⟩
              have HB4 := hidd (HB.out.wrote hb4 g4 k4)
              have HBn : Hid (bufN wr bb = sf.length) := by rw [IsBuilder.bufN HB.out.bld, byteCells_len, List.length_reverse]; rfl
              obtain ⟨⟨q0, q1⟩, qf⟩ := two_cells HB4.out.frm
              obtain ⟨l, hm, hcam⟩ := HB4.out.map
              obtain ⟨st2, c2, hl, hent⟩ := hcam.look hp
              have hlook : ∀ o, (Instr.lookup 107 (.map (some mb)) (.int .i64 (p : Nat)) false).run Tryd.prog (w4.alloc o) = .ok (.agg #[.int .i64 st2, .int .u8 c2]) (w4.alloc o) := fun o => (hm.kept ((Grew.refl w4).alloc o)).lookS keyI Tryd.underlying107 hl false
              have HB5 : Hid (Bck w (w4.alloc (.cells #[.int .i64 st2, .int .u8 c2] 106)) mb L bb w4.heap.size st2 c2 (ch :: sf) ∧ Ent L t' st2 c2) := ⟨HB4.out.next st2 c2, hent⟩
              clear hb4 g4 k4 hm hcam hl hent qf f0 f1 ff0 ff1
              go_wp2_with fail
              refine ⟨⟨_, st2, c2, rfl, t', ch :: sf, HB5.out.1, HB5.out.2, by rw [HT.out]; simp⟩, ?_⟩
              rw [HBn.out, IsBuilder.bufN HB5.out.1.bld, byteCells_len, List.length_reverse, HT.out]
              simp
              omega
        | false =>
          rw [hb] at ce HEn
          have HSA : Hid (shortAt (raA A) (i + 1)) := fun j hj => by
            by_cases e : j < i
            · exact HKS.out.2 j e
            · have : j = i := by omega
              rw [this]; exact ⟨s, t, HSt.out, HEn.out.symm⟩
          have HBs : Hid (bfs (raA A) (i + 1) = addUp ((raA A).nx s) t (bfs (raA A) i) 256) := bfs_succ HSt.out
          have HOkU : Hid (∀ m, m ≤ 256 → BfsOk n (addUp ((raA A).nx s) t (bfs (raA A) i) m) ∧ (s, t) ∈ addUp ((raA A).nx s) t (bfs (raA A) i) m) := fun m hm => by
            obtain ⟨r, hr⟩ := addUp_pre ((raA A).nx s) t (bfs (raA A) i) m
            refine ⟨by rw [← HRn.out]; exact (bfs_ok HOk.out i).addUp m fun c hc => HOk.out.nx s c (by rw [HRn.out]; exact hsn) (by omega), by rw [hr]; exact List.mem_append_left _ HSm.out⟩
          have HS0 : Hid (Sho w wr A na nc (some ⟨eb, eo, none⟩) ec mb (addUp ((raA A).nx s) t (bfs (raA A) i) 0) i (.slice (some ⟨qb, qo, none⟩) (k + 1) qc) (k + 1)) := HKS.out.1
          clear hb
          go_wp2_with fail
          clear c0 cx ce
          obtain ⟨w0, rfl⟩ : ∃ w0, w0 = wr := ⟨_, rfl⟩
          go_loopw [6, 57] (fun s6 s57 wr => ∃ c k2 qa qc, s57 = .int .i64 (c : Nat) ∧ c ≤ 256 ∧ s6 = .slice qa (k2 + 1) qc ∧ k2 ≤ 8192 ∧ Hid (Sho w wr A na nc (some ⟨eb, eo, none⟩) ec mb (addUp ((raA A).nx s) t (bfs (raA A) i) c) i (.slice qa (k2 + 1) qc) (k2 + 1))) (fun _ s57 _ => 256 - (intOf s57).toNat)
          case atStart => exact ⟨0, k, _, _, rfl, by omega, rfl, by omega, HS0.out⟩
          case round =>
            obtain ⟨c, k2, qa, qc2, rfl, hc, rfl, hk2, JS⟩ := hrel
            clear HS0
            have hkn : k2 + 1 + i ≤ n := by have := JS.out.len; have h2 := (HOkU.out c hc).1.le; omega
            by_cases hcl : c < 256
            · have kc : decide ((c : Int) < 256) = true := decide_eq_true (by omega)
              have hcw : (c : Int) % 256 = (c : Int) := by omega
              have HSt2 := hidd (Step_any A na (some ⟨eb, eo, none⟩) nc ec w.heap.size s c wr JS.out.held HR.out (by rw [HN.out]; exact hsn) hcl)
              have HQ : Hid ((raA A).nx s c = stepA A s c ∧ stepA A s c < n) := ⟨rfl, by rw [← HRn.out]; exact HOk.out.nx s c (by rw [HRn.out]; exact hsn) hcl⟩
              have HAd : Hid (addUp ((raA A).nx s) t (bfs (raA A) i) (c + 1) = if stepA A s c ∈ (addUp ((raA A).nx s) t (bfs (raA A) i) c).map (·.1) then addUp ((raA A).nx s) t (bfs (raA A) i) c else addUp ((raA A).nx s) t (bfs (raA A) i) c ++ [(stepA A s c, t ++ [UInt8.ofNat c])]) := by rw [addUp_succ]; rfl
              have HMs : Hid ((s, t) ∈ addUp ((raA A).nx s) t (bfs (raA A) i) c) := (HOkU.out c hc).2
              generalize addUp ((raA A).nx s) t (bfs (raA A) i) c = Lc at JS HAd HMs
              generalize stepA A s c = q at HSt2 HQ HAd
              go_wp2_with fail
              refine HSt2.out.mono ?_; rintro e wz ⟨rfl, gz⟩
              have HJz := hidd (JS.out.kept gz)
              obtain ⟨l, hm, hcam⟩ := HJz.out.map
              have hz := zero_from
              by_cases hq : q ∈ Lc.map (·.1)
              · have HA2 : Hid (addUp ((raA A).nx s) t (bfs (raA A) i) (c + 1) = Lc) := by rw [HAd.out, if_pos hq]; rfl
                obtain ⟨x, hx, hxe⟩ := List.mem_map.1 hq
                obtain ⟨st, c2, hl, _⟩ := hcam.look (s := x.1) (t := x.2) hx
                rw [hxe] at hl
                have hlook : (Instr.lookup 107 (.map (some mb)) (.int .i64 (q : Nat)) true).run Tryd.prog wz = .ok (.tuple #[.agg #[.int .i64 st, .int .u8 c2], .bool true]) wz := hm.lookS keyI Tryd.underlying107 hl true
                clear hm hcam hl hx hxe hz
                go_wp2_with fail
                exact ⟨⟨c + 1, k2, _, _, by simp, by omega, rfl, hk2, by rw [HA2.out]; exact HJz.out.kept ((Grew.refl wz).alloc _)⟩, by simp [intOf]; omega⟩
              · have HA2 : Hid (addUp ((raA A).nx s) t (bfs (raA A) i) (c + 1) = Lc ++ [(q, t ++ [UInt8.ofNat c])]) := by rw [HAd.out, if_neg hq]; rfl
                have hlook : (Instr.lookup 107 (.map (some mb)) (.int .i64 (q : Nat)) true).run Tryd.prog wz = .ok (.tuple #[.agg #[.int .i64 0, .int .u8 0], .bool false]) wz := hm.lookN keyI Tryd.underlying107 (hz wz) (show q ≤ 9223372036854775807 by have := HQ.out.2; omega) (by rw [hcam.keys]; exact hq) true
                obtain ⟨w6, hput, hs6, v', w7, hap, ⟨va, vc, rfl⟩, hS7⟩ := (HJz.out.kept ((Grew.refl wz).alloc (.cells #[.int .i64 0, .int .u8 0] 106))).add HMs.out hcl hq (by have := HQ.out.2; omega) (by omega) 37
                rw [← hs6] at hap
                have HS7 := hidd hS7
                have hput2 : (Instr.mapUpdate 107 (.map (some mb)) (.int .i64 (q : Nat)) (.agg #[.int .i64 (s : Nat), .int .u8 (c : Nat)])).run Tryd.prog (wz.alloc (.cells #[.int .i64 0, .int .u8 0] 106)) = .ok () w6 := hput
                clear hm hcam hz hS7 hput hs6
                go_wp2_with (first | (at_builtin; refine wpList_append_eq rfl rfl rfl rfl hap ?_))
                exact ⟨⟨c + 1, k2 + 1, _, _, by simp, by omega, rfl, by omega, by rw [HA2.out]; exact HS7.out⟩, by simp [intOf]; omega⟩
            · obtain rfl : c = 256 := by omega
              have kc : decide ((256 : Int) < 256) = false := rfl
              obtain ⟨a, cc, hsl, hcut⟩ := JS.out.cut
              have HCut := hidd hcut
              have HM2 : Hid (mapN wr mb = k2 + 1 + i) := by
                obtain ⟨l, h1, h2⟩ := JS.out.map
                have := congrArg List.length h2.keys
                rw [List.length_map, List.length_map] at this
                rw [h1.mapN, this, ← JS.out.len]; rfl
              clear hcut
              go_wp2_with fail
              refine ⟨⟨i + 1, k2, a, cc, rfl, by omega, by rw [HBs.out]; exact HCut.out, HSA.out⟩, ?_⟩
              show n - (mapN wr mb - k2) < n - (mapN w0 mb - (k + 1))
              rw [HM2.out, HMe.out]
              omega
      · obtain rfl : k = 0 := by omega
        have kl : decide ((0 : Int) < ((0 : Nat) : Int)) = false := rfl
        have HNo : Hid ((bfs (raA A) i)[i]? = none) := List.getElem?_eq_none (by omega)
        go_wp2_with fail
        refine bodyPost_ret (results_tmp2 rfl _ _ _) rfl ⟨⟨none, fun _ => Short.none i KS.out.2 HNo.out, ?_⟩, KS.out.1.grew⟩
        rw [HV.out]; rfl
  · have HV : Hid (shoV A none = .tuple #[.string ⟨#[]⟩, .int .i64 (wrongA A)]) := by unfold shoV; rw [if_neg h0]; rfl
    obtain ⟨W, hW⟩ : ∃ W, wrongA A = W := ⟨_, rfl⟩
    have HNe : Hid (wrongA A ≠ 0) := h0
    rw [hW] at h0 HWr HV
    have k1 : (W != 0) = true := by simpa using h0
    clear hW h0
    go_enter Tryd.func20, Tryd.ntmps20
    go_wp2_with (refine wpList_load_aut rfl rfl rfl HH.out HSz.out ?_)
    refine HWr.out.mono ?_; rintro e w1 ⟨rfl, g1⟩
    go_wp2_with fail
    exact bodyPost_ret (results_tmp2 rfl _ _ _) rfl ⟨⟨none, fun h => absurd h HNe.out, by rw [HV.out]; rfl⟩, HG.out.trans g1⟩
end Go.Proofs.YtkkdpafkafjfgaaDoor
