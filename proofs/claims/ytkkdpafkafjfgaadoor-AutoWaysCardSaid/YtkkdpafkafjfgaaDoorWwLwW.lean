/- AutoWays: the walk. Conditions: the pattern lies in memory; the text is no longer than a text may be; the library's two tables. -/
import Derived.Test.YtkkdpafkafjfgaaDoorWwPLwA
import Derived.Test.YtkkdpafkafjfgaaDoorWwLwV
import Derived.Test.YtkkdpafkafjfgaaDoorWwScWays
import Derived.Deep.DeepCutAuto
namespace Go.Proofs.YtkkdpafkafjfgaaDoor
open Go.RowKit RR
set_option linter.unusedVariables false
set_option linter.unusedSimpArgs false
set_option maxRecDepth 100000
abbrev MakeEndL (w : World) (p : Pat) : Ending → World → Prop := fun e w' => ∃ v, e = .returned (.tuple #[.agg v, .int .i64 (makeErr p)]) ∧ Grew w w' ∧ v.size = 258 ∧ v.all (·.oneCell') = true ∧ MkN w.heap.size w' v p
theorem tabP_kept {w w' : World} (g : Grew w w') (h : TabP w) : TabP w' := h.kept g
def endsAt (l : List Way) (n : Nat) : Bool := l.any fun x => x.1 == n
theorem endsAt_succ {l : List Way} {i n : Nat} (hi : i < l.length) : endsAt (l.take (i + 1)) n = (endsAt (l.take i) n || (l.getD i way0).1 == n) := by
  unfold endsAt
  rw [List.take_succ_eq_append_getElem hi, List.any_append, List.getD_eq_getElem?_getD, List.getElem?_eq_getElem hi]
  simp
theorem tell_le {fuel : Nat} : ∀ {T : Tr} {m k : Nat} {l : List Way} {c : Bool}, tell fuel m k T = (l, c, 0) → l.length ≤ m
  | T, 0, k, l, c, h => by
    have e : tell fuel 0 k T = ([], false, 0) := by unfold tell; rfl
    rw [e] at h; cases h; exact Nat.le_refl _
  | .stop .done, m + 1, k, l, c, h => by rw [tell] at h; cases h; exact Nat.zero_le _
  | .stop .cut, m + 1, k, l, c, h => by rw [tell] at h; cases h; exact Nat.zero_le _
  | .stop .deep, m + 1, k, l, c, h => by rw [tell] at h; cases h
  | .stop .name, m + 1, k, l, c, h => by rw [tell] at h; cases h
  | .tick t, m + 1, k, l, c, h => by
    rw [tell] at h
    split at h
    · cases h
    · exact tell_le h
  | .say g t, m + 1, k, l, c, h => by rw [tell] at h; exact tell_le h
  | .way a g t, m + 1, k, l, c, h => by
    rw [tell] at h
    cases e : tell fuel m k t with
    | mk l2 r =>
      obtain ⟨c2, e2⟩ := r
      rw [e] at h
      dsimp only at h
      split at h
      · rename_i h0
        subst h0
        have := tell_le e
        cases h
        simp; omega
      · rename_i h0
        cases h
        exact absurd rfl h0
set_option maxHeartbeats 8000000 in
theorem AutoWays_walk (p : Pat) (kv : Value) (s : ByteArray) (w : World) (hp : PatV w kv p) (hs : s.size ≤ maxLen) (hT : TabZ32 w) (hP : TabP w) :
    Calls Tryd.prog 8 #[.agg (p.cells kv), .string s] w fun e w' => e = .returned (.bool true) ∧ Grew w w' := by
  have hz := zero_aut
  have HAl : Hid (∀ w1, Grew w w1 → Calls Tryd.prog 13 #[] w1 fun e w' => e = .returned (.bool true) ∧ Grew w1 w') := fun w1 g => Alive_any w1 (hT.kept g)
  have hb1 := heap_alloc_new w (.cells (p.cells kv) 24)
  have hg := (Grew.refl w).alloc (.cells (p.cells kv) 24)
  obtain ⟨W0, hW0⟩ : ∃ W, w.alloc (.cells (p.cells kv) 24) = W := ⟨_, rfl⟩
  rw [hW0] at hb1 hg
  obtain ⟨pb, hpb⟩ : ∃ pb, w.heap.size = pb := ⟨_, rfl⟩
  rw [hpb] at hb1
  have HB := hidd (And.intro hb1 hg)
  have HWy : Hid (∀ w1, Grew W0 w1 → Calls Tryd.prog 23 #[.slice none 0 0, .agg #[.int .i64 p.kind, .string p.text, .int .i64 p.n, .string p.name, kv], .string s, .int .i64 0, .int .i64 4096, .int .i64 50000] w1 (WaysEnd w1 (waysOf [] p s 0 4096 50000))) := fun w1 g => Ways_any 0 4096 50000 (Or.inl ⟨none, 0, rfl, rfl⟩) (hp.kept (hg.trans g)) hs (by omega) (tabP_kept (hg.trans g) hP)
  have HSz0 := hidd hs
  have HFp : Hid (∀ w1, Grew W0 w1 → Calls Tryd.prog 10 #[.agg #[.int .i64 p.kind, .string p.text, .int .i64 p.n, .string p.name, kv]] w1 (MakeEndL w1 p)) := fun w1 g => make_mk (hp.kept (hg.trans g)) (hT.kept (hg.trans g))
  clear hb1 hg hT hp hP
  unfold Pat.cells at hW0 ⊢
  go_enter Tryd.func8, Tryd.ntmps8
  go_wp2_with (rw [hW0])
  refine (HAl.out _ HB.out.2).mono ?_; rintro e w1 ⟨rfl, g1⟩
  have HG1 := hidd g1
  have a0 : w1.cell? ⟨pb, 0, none⟩ = some (.int .i64 p.kind) := cell_of (heap_kept g1 HB.out.1) 0
  have a1 : w1.cell? ⟨pb, 1, none⟩ = some (.string p.text) := cell_of (heap_kept g1 HB.out.1) 1
  have a2 : w1.cell? ⟨pb, 2, none⟩ = some (.int .i64 p.n) := cell_of (heap_kept g1 HB.out.1) 2
  have a3 : w1.cell? ⟨pb, 3, none⟩ = some (.string p.name) := cell_of (heap_kept g1 HB.out.1) 3
  have a4 : w1.cell? ⟨pb, 4, none⟩ = some (kv) := cell_of (heap_kept g1 HB.out.1) 4
  clear g1 hW0 HAl
  go_wp2_with fail
  refine (HFp.out _ HG1.out).mono ?_; rintro e w2 ⟨v5, rfl, g2, z1, z2, m5⟩
  obtain ⟨b, hb5⟩ : ∃ b, w2.heap.size = b := ⟨_, rfl⟩
  have HZ5 : Hid ((w2.alloc (.cells zAut 30)).heap[b]? = some (.cells zAut 30 (0, 0))) := by rw [← hb5]; exact heap_alloc_new w2 _
  obtain ⟨W2, hW5⟩ : ∃ W, (w2.alloc (.cells zAut 30)).setRow b v5 = W := ⟨_, rfl⟩
  have gw5 : Grew w2 W2 := by rw [← hW5]; exact setRow_grew ((Grew.refl w2).alloc _) (by omega) v5
  have hh5 := setRow_heap _ b _ v5 _ _ HZ5.out
  rw [hW5] at hh5
  have HS5 := hidd (And.intro z1 z2)
  have HM5 := hidd (And.intro hh5 (m5.at.kept gw5))
  have HG02 := hidd (HG1.out.trans (g2.trans gw5))
  have HG2 := hidd (HB.out.2.trans HG02.out)
  clear z1 z2 m5 g2 gw5 hh5 HG1 a0 a1 a2 a3 a4 HFp hpb
  obtain ⟨ep, hep⟩ : ∃ ep, makeErr p = ep := ⟨_, rfl⟩
  have HEp := hidd hep
  rw [hep]
  clear hep
  go_upto_region 4 with (refine wpList_store_aut (b := b) rfl rfl rfl rfl HZ5.out zAut_size HS5.out.1 HS5.out.2 ?_)
  try rw [hW5]
  clear hb5 hW5 HZ5
  by_cases hp0 : ep = 0
  rotate_left
  · have k1 : (ep != 0) = true := by simpa using hp0
    go_wp2_with fail
    go_ret
    exact ⟨rfl, HG2.out⟩
  subst hp0
  obtain ⟨_, _, B, na, nc', ea, ec, hve, hAt, _, hIs⟩ := HM5.out.2
  have hI := hIs HEp.out
  obtain ⟨hp1, np, hp2, _⟩ := makeErr_zero HEp.out
  have HMd : Hid (MadeP p) := ⟨patErr_none hp1, by rw [hp2]; exact fun h => by cases h⟩
  have HLg : Hid (autL p s.data.toList = true ↔ langP p s.data.toList) := autL_lang HEp.out _
  obtain ⟨z, hz⟩ : ∃ z, autL p s.data.toList = z := ⟨_, rfl⟩
  have HAc : Hid (∀ w1, Grew W2 w1 → Calls Tryd.prog 21 #[.agg v5, .string s] w1 fun e w' => e = .returned (.tuple #[.bool z, .int .i64 0]) ∧ Grew w1 w') := fun w1 g => by
    have := Accepts_any B na ea nc' ec s w1 (hAt.kept g) HSz0.out
    rw [hI.acc, hz, ← hve] at this; exact this
  rw [hz] at HLg
  have HHb := hidd HM5.out.1
  have HSz := hidd HS5.out
  clear HM5 HS5 HEp hve hAt hIs hI hz hp1 hp2
  go_wp2_with (refine wpList_load_aut (b := b) rfl rfl rfl HHb.out HSz.out.1 ?_)
  refine (HAc.out _ (Grew.refl _)).mono ?_; rintro e w3 ⟨rfl, g3⟩
  have HG3 := hidd (HG02.out.trans g3)
  have HG3w := hidd (HG2.out.trans g3)
  have a0 : w3.cell? ⟨pb, 0, none⟩ = some (.int .i64 p.kind) := cell_of (heap_kept HG3.out HB.out.1) 0
  have a1 : w3.cell? ⟨pb, 1, none⟩ = some (.string p.text) := cell_of (heap_kept HG3.out HB.out.1) 1
  have a2 : w3.cell? ⟨pb, 2, none⟩ = some (.int .i64 p.n) := cell_of (heap_kept HG3.out HB.out.1) 2
  have a3 : w3.cell? ⟨pb, 3, none⟩ = some (.string p.name) := cell_of (heap_kept HG3.out HB.out.1) 3
  have a4 : w3.cell? ⟨pb, 4, none⟩ = some (kv) := cell_of (heap_kept HG3.out HB.out.1) 4
  clear g3 HAc HG02 HG2 HHb HSz
  go_wp2_with fail
  refine (HWy.out _ HG3.out).mono ?_; rintro e w4 ⟨g4, v, rfl, hwa⟩
  have hwv := WaysV.of_at hwa
  obtain ⟨R, hR⟩ : ∃ R, waysOf [] p s 0 4096 50000 = R := ⟨_, rfl⟩
  rw [hR] at hwv ⊢
  obtain ⟨l, cut, er⟩ := R
  dsimp only at hwv ⊢
  obtain ⟨va, vc, rfl, hvc, hvl⟩ := hwv.len
  have HR := hidd hR
  have HV := hidd hwv
  have HG4 := hidd (HG3w.out.trans g4)
  clear hwa hwv hR g4 a0 a1 a2 a3 a4 HWy HG3 HG3w HB
  by_cases he0 : er = 0
  rotate_left
  · have k1 : (er != 0) = true := by simpa using he0
    go_wp2_with fail
    go_ret
    exact ⟨rfl, HG4.out⟩
  subst he0
  obtain ⟨N, hN⟩ : ∃ N, l.length = N := ⟨_, rfl⟩
  rw [hN] at hvc hvl HV
  rw [hN]
  by_cases h4096 : N = 4096
  · subst h4096
    go_wp2_with fail
    go_ret
    exact ⟨rfl, HG4.out⟩
  have k2 : ((N : Int) == (4096 : Int)) = false := by simp; omega
  have HMdl : Hid (N < 4096 → ((∃ x ∈ l, x.1 = s.size) ↔ langP p s.data.toList)) := fun hlt => by
    have hr := HR.out
    unfold waysOf at hr
    split at hr
    · rw [if_neg (by omega)] at hr
      exact ways_lang (fuel := 50000) (most := 4096) HMd.out hr (by omega)
    · rename_i h1
      have := congrArg (fun x => x.2.2) hr
      exact absurd this h1
  have HN4 : Hid (N ≤ 4096) := by
    have hr := HR.out
    unfold waysOf at hr
    split at hr
    · rw [if_neg (by omega)] at hr
      rw [Hid, ← hN]
      exact tell_le hr
    · rename_i h1
      have := congrArg (fun x => x.2.2) hr
      exact absurd this h1
  have HZ : Hid (endsAt l s.size = z) := by
    have h1 := HMdl.out (by have := HN4.out; omega)
    rw [Hid, Bool.eq_iff_iff, HLg.out, ← h1]
    unfold endsAt
    rw [List.any_eq_true]
    exact ⟨fun ⟨x, hx, e⟩ => ⟨x, hx, by simpa using e⟩, fun ⟨x, hx, e⟩ => ⟨x, hx, by simpa using e⟩⟩
  have HNl := hidd hN
  clear HMdl HLg HMd HR hN
  go_wp2_with fail
  obtain ⟨M, hM⟩ : ∃ M, s.size = M := ⟨_, rfl⟩
  rw [hM] at HZ
  have HMs := hidd hM
  have hM0 : M ≤ maxLen := by rw [← hM]; exact hs
  unfold maxLen at hM0
  go_loopw [10, 46] (fun s10 s46 wr => ∃ (q : Bool) (i : Nat), s10 = .bool q ∧ s46 = .int .i64 (i : Nat) ∧ i ≤ N ∧ Hid (Grew w4 wr ∧ q = endsAt (l.take i) M)) (fun _ s46 _ => N - (intOf s46).toNat)
  case atStart => exact ⟨false, 0, rfl, rfl, by omega, Grew.refl _, rfl⟩
  case round =>
    obtain ⟨q, i, rfl, rfl, hi, KS⟩ := hrel
    by_cases hil : i < N
    · have kl : decide ((i : Int) < (N : Int)) = true := decide_eq_true (by omega)
      rcases HV.out.kept KS.out.1 with ⟨_, _, e, _⟩ | ⟨vb, vo, vc2, e, _, _, _, hcell⟩
      · cases e; omega
      cases e
      have hl : i < l.length := by rw [HNl.out]; exact hil
      obtain ⟨d0, gv, d1, hgv⟩ := hcell i hl
      obtain ⟨ga, gc, rfl, _, _⟩ := hgv.len
      obtain ⟨gn, hgn⟩ : ∃ gn, (l.getD i way0).2.length = gn := ⟨_, rfl⟩
      rw [hgn] at d1
      have HSu : Hid (endsAt (l.take (i + 1)) M = (q || (l.getD i way0).1 == M)) := by rw [Hid, endsAt_succ hl, ← KS.out.2]
      obtain ⟨X, hX⟩ : ∃ X, (l.getD i way0).1 = X := ⟨_, rfl⟩
      rw [hX] at d0 HSu
      have HG := hidd KS.out.1
      clear hgv hgn hX KS hcell
      cases q with
      | true =>
        go_wp2_with fail
        exact ⟨⟨true, i + 1, rfl, by simp, by omega, HG.out.trans ((Grew.refl wr).alloc _), by rw [HSu.out]; rfl⟩, by simp [intOf]; omega⟩
      | false =>
        have hMs := HMs.out
        by_cases hXM : X = M
        · subst hXM
          go_wp2_with fail
          exact ⟨⟨true, i + 1, rfl, by simp, by omega, HG.out.trans ((Grew.refl wr).alloc _), by rw [HSu.out]; simp⟩, by simp [intOf]; omega⟩
        · have kx : ((X : Int) == (M : Int)) = false := by simp; omega
          have kx2 : (X == M) = false := by simp; omega
          go_wp2_with fail
          exact ⟨⟨false, i + 1, rfl, by simp, by omega, HG.out.trans ((Grew.refl wr).alloc _), by rw [HSu.out, kx2]; rfl⟩, by simp [intOf]; omega⟩
    · obtain rfl : i = N := by omega
      have kl : decide ((i : Int) < (i : Int)) = false := decide_eq_false (by omega)
      have hq := KS.out.2
      rw [← HNl.out, List.take_length, HZ.out] at hq
      subst hq
      have HG := hidd (HG4.out.trans KS.out.1)
      clear KS
      cases q <;>
      · go_wp2_with fail
        go_ret
        exact ⟨rfl, HG.out⟩
end Go.Proofs.YtkkdpafkafjfgaaDoor
