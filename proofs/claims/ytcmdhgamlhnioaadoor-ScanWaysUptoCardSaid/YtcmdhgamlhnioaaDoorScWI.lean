/- What the one who asks for ways does behind a piece: one more way. -/
import Derived.Test.YtcmdhgamlhnioaaDoorScRT
import Derived.Test.YtcmdhgamlhnioaaDoorScRB
import Derived.Test.YtcmdhgamlhnioaaDoorScWays
import Derived.Test.YtcmdhgamlhnioaaDoorScWF
/-! What the one who asks for ways does behind a piece: one more way. -/
namespace Go.Proofs.YtcmdhgamlhnioaaDoor
open Go.RowKit
set_option linter.unusedVariables false
/-- Ways whose gifts never turn, in a row of one's own. -/
def WaysM (w : World) (M : Nat → Prop) (B : Nat) (v : Value) (l : List Way) : Prop :=
  ∃ gs : List Value, gs.length = l.length ∧ w.ownsRow B 65 2 v l.length (wayCells l gs) ∧ ∀ x ∈ l.zip gs, GV w M x.2 x.1.2
def OW (E : Env) (mb most : Nat) : OutP (List Way) := fun w M ov x =>
  w.heap[E.ob]? = some (.cells #[ov] 35 (0, 0)) ∧ WaysM w M E.w0.heap.size ov x.1 ∧ x.2 = x.1.length ∧ w.cell? ⟨mb, 0, none⟩ = some (.int .i64 most) ∧ Safe M w mb
theorem ow_ok (E : Env) (mb most : Nat) : OutOk E (OW E mb most) := by
  constructor
  rintro w w' M M' C ov ⟨l, n⟩ ⟨h1, ⟨gs, h2, h3, h4⟩, h5, h6, h7⟩ hsz hC hblk hM'
  have hmay : ∀ k, k < w.heap.size → ¬ M k → w'.heap[k]? = w.heap[k]? := fun k hk hn => hblk k hk (fun hc => hn (hC k hc).1)
  have hsafe : ∀ k, Safe M w k → Safe M' w' k := fun k hk => ⟨Nat.lt_of_lt_of_le hk.1 hsz, fun hm => by rcases hM' k hm with h | h; exact hk.2 h; have := hk.1; omega⟩
  have hob : E.ob < w.heap.size := (Array.getElem?_eq_some_iff.1 h1).1
  refine ⟨by rw [hblk _ hob (fun hc => (hC _ hc).2.1 rfl)]; exact h1, ⟨gs, h2, ?_, fun x hx => ?_⟩, h5, by rw [World.cell?_of_block (hmay _ h7.1 h7.2)]; exact h6, hsafe _ h7⟩
  · refine ⟨h3.1, ?_⟩
    rcases h3.2 with h | ⟨g, cap, cur, a1, a2, a3, a4⟩
    · exact Or.inl h
    · refine Or.inr ⟨g, cap, cur, a1, a2, ?_, a4⟩
      rw [hblk g (Array.getElem?_eq_some_iff.1 a3).1 (fun hc => (hC _ hc).2.2 (by rw [a1]; rfl))]
      exact a3
  · have hg := h4 x hx
    refine ⟨?_, fun b hb => hsafe b (hg.2 b hb)⟩
    rcases hg.1 with k1 | ⟨b, o, c, k1, k2, k3, k4, k5⟩
    · exact Or.inl k1
    · have hs := hg.2 b (by rw [k1]; rfl)
      exact Or.inr ⟨b, o, c, k1, k2, k3, k4, fun i hi => ⟨by rw [World.cell?_of_block (hmay _ hs.1 hs.2)]; exact (k5 i hi).1, by rw [World.cell?_of_block (hmay _ hs.1 hs.2)]; exact (k5 i hi).2⟩⟩
section
variable {E : Env} {mb most : Nat} {w w1 : World} {M : Nat → Prop} {s : LS (List Way)} {sv ov : Value}
theorem ow_own (h : OW E mb most w M ov (s.out, s.ways)) : ov.ownBlock ≠ some E.ob := by
  obtain ⟨h1, ⟨gs, h2, h3, h4⟩, _⟩ := h
  exact ownBlock_ne h3 h1 (by decide)
/-- One more way. -/
theorem LkSt.told (h : LkSt E (OW E mb most) w M s sv ov) {x : Way} {gv : Value} (hgv : GV w M gv x.2) {gs : List Value} (hgl : gs.length = s.out.length) (hgg : ∀ y ∈ s.out.zip gs, GV w M y.2 y.1.2) {gg c : Nat} (hg : w.grownBy w1 ov.ownBlock)
    (hown : w1.ownsRow E.w0.heap.size 65 2 (.slice (some ⟨gg, 0, none⟩) (s.out.length + 1) c) (s.out.length + 1) (wayCells s.out gs ++ [.int .i64 x.1, gv])) (hat : ov.ownBlock = some gg ∨ w.heap.size ≤ gg) (hlt : gg < w1.heap.size) :
    ∃ M', LkSt E (OW E mb most) (w1.setCell ⟨E.ob, 0, none⟩ (.slice (some ⟨gg, 0, none⟩) (s.out.length + 1) c)) M' { s with out := s.out ++ [x], ways := s.ways + 1 } sv (.slice (some ⟨gg, 0, none⟩) (s.out.length + 1) c) ∧ Turn M M' w (w1.setCell ⟨E.ob, 0, none⟩ (.slice (some ⟨gg, 0, none⟩) (s.out.length + 1) c)) := by
  have hm : M E.lb := (h.may _).2 (Or.inl rfl)
  have hmo : M E.ob := (h.may _).2 (Or.inr (Or.inl rfl))
  have hno := ow_own h.out
  obtain ⟨o1, _, o3, o4, o5⟩ := h.out
  have hobl : E.ob < w.heap.size := (Array.getElem?_eq_some_iff.1 o1).1
  have hsz : (w1.setCell ⟨E.ob, 0, none⟩ (.slice (some ⟨gg, 0, none⟩) (s.out.length + 1) c)).heap.size = w1.heap.size := by simp [World.setCell]
  have hb1 : w1.heap[E.ob]? = some (.cells #[ov] 35 (0, 0)) := by rw [hg.block _ hobl (Ne.symm hno)]; exact o1
  have hbk : ∀ k, k < w.heap.size → k ≠ E.ob → ov.ownBlock ≠ some k → (w1.setCell ⟨E.ob, 0, none⟩ (.slice (some ⟨gg, 0, none⟩) (s.out.length + 1) c)).heap[k]? = w.heap[k]? := fun k hk h1 h2 => by
    rw [setCell_heap_other _ _ _ (Ne.symm h1)]; exact hg.block k hk (Ne.symm h2)
  have hng : ∀ k, M k → ov.ownBlock ≠ some k → gg ≠ k := fun k hk hs e => by
    subst e
    rcases hat with h1 | h1
    · exact hs h1
    · have := h.lt _ hk; omega
  have hgl2 : E.w0.heap.size ≤ gg := by
    rcases hat with h1 | h1
    · exact h.low _ ((h.may _).2 (Or.inr (Or.inr (Or.inr h1))))
    · exact Nat.le_trans h.grew.size h1
  have hmut : ∀ k, (k = E.lb ∨ k = E.ob ∨ sv.ownBlock = some k ∨ gg = k) → M k ∨ w.heap.size ≤ k := fun k hk => by
    rcases hk with rfl | rfl | hk | rfl
    · exact Or.inl hm
    · exact Or.inl hmo
    · exact Or.inl ((h.may _).2 (Or.inr (Or.inr (Or.inl hk))))
    · rcases hat with h1 | h1
      · exact Or.inl ((h.may _).2 (Or.inr (Or.inr (Or.inr h1))))
      · exact Or.inr h1
  have hT : Turn M (fun k => k = E.lb ∨ k = E.ob ∨ sv.ownBlock = some k ∨ gg = k) w (w1.setCell ⟨E.ob, 0, none⟩ (.slice (some ⟨gg, 0, none⟩) (s.out.length + 1) c)) :=
    ⟨by rw [hsz]; exact hg.size, fun k hk hn => hbk k hk (fun e => hn (e ▸ hmo)) (fun e => hn ((h.may _).2 (Or.inr (Or.inr (Or.inr e))))), hmut⟩
  refine ⟨_, ⟨?_, ?_, ⟨?_, ⟨gs ++ [gv], ?_, ?_, fun y hy => ?_⟩, ?_, ?_, o5.kept hT⟩, (h.grew.grown hg (fun b hb => ?_)).setCell (h.low _ hmo) _, fun k => ?_, fun k hk => ?_, fun k hk => ?_, h.ne1, ?_, h.ne3, ?_⟩, hT⟩
  · rw [hbk _ h.hlt h.ne1 h.ne2]; exact h.look
  · refine ownsRow_setCell_other (World.ownsRow.kept h.said hg ?_) h.ne3 _
    cases hsv : sv.ownBlock with
    | none => exact Or.inl rfl
    | some b => exact Or.inr (fun e => h.ne4 b hsv e.symm)
  · rw [setCell_heap_same hb1]; rfl
  · show (gs ++ [gv]).length = (s.out ++ [x]).length
    simp [hgl]
  · show (w1.setCell _ _).ownsRow _ _ _ _ (s.out ++ [x]).length (wayCells (s.out ++ [x]) (gs ++ [gv]))
    rw [wayCells_snoc hgl, List.length_append]
    exact ownsRow_setCell_other hown (ownBlock_ne hown hb1 (by decide)) _
  · have hy : y ∈ (s.out ++ [x]).zip (gs ++ [gv]) := hy
    rw [List.zip_append hgl.symm] at hy
    rcases List.mem_append.1 hy with hy | hy
    · exact (hgg y hy).kept hT
    · simp at hy; subst hy; exact hgv.kept hT
  · show s.ways + 1 = (s.out ++ [x]).length
    have o3 : s.ways = s.out.length := o3
    rw [List.length_append, o3]; rfl
  · exact hT.cell o4 o5.2
  · exact h.low _ ((h.may _).2 (Or.inr (Or.inr (Or.inr hb))))
  · show _ ↔ _
    simp [Value.ownBlock]
  · rcases hmut k hk with h1 | h1
    · exact h.low k h1
    · exact Nat.le_trans h.grew.size h1
  · rw [hsz]
    rcases hk with rfl | rfl | hk | rfl
    · exact Nat.lt_of_lt_of_le h.hlt hg.size
    · exact Nat.lt_of_lt_of_le (h.lt _ hmo) hg.size
    · exact Nat.lt_of_lt_of_le (h.lt _ ((h.may _).2 (Or.inr (Or.inr (Or.inl hk))))) hg.size
    · exact hlt
  · intro e
    simp only [Value.ownBlock, Option.some.injEq] at e
    exact hng _ hm h.ne2 e
  · intro b hb e
    simp only [Value.ownBlock, Option.some.injEq] at e
    exact hng _ ((h.may _).2 (Or.inr (Or.inr (Or.inl hb)))) (h.ne4 b hb) e
end
set_option maxRecDepth 100000 in
set_option maxHeartbeats 4000000 in
theorem way_clo {E : Env} {mb most : Nat} {w0 : World} {M0 : Nat → Prop} {lo d a0 : Nat} (hV : most = E.V + 1) (hm : most ≤ 4096) (hL : E.S.size ≤ 65536) :
    ThenOk E (OW E mb most) M0 w0 lo d a0 26 #[.pointer (some ⟨E.ob, 0, none⟩), .pointer (some ⟨mb, 0, none⟩)] (Kw most) := by
  refine ⟨enters_of Tryd.func26 (by kernel_rfl) rfl, Kw_okay most (by omega), fun w M e gv h s t hs hg ha h0 h1 h2 hw h3 h4 => ?_⟩
  obtain ⟨sv, ov, hl⟩ := hs
  obtain ⟨o1, ⟨gs, hgl, hown, hgg⟩, o3, o4, o5⟩ := hl.out
  have hwn : s.ways = s.out.length := o3
  have hno := ow_own hl.out
  obtain ⟨i0, hi0, hz0, hz1, hz2⟩ := info_parts info_way
  have hga : Grew w (w.alloc (.cells #[.int .i64 e, gv] 65)) := (Grew.refl w).alloc _
  have hl2 := hl.grown (ow_ok E mb most) hga
  have hown2 : (w.alloc (.cells #[.int .i64 e, gv] 65)).ownsRow E.w0.heap.size 65 2 ov s.out.length (wayCells s.out gs) := hown.alloc _
  obtain ⟨gp, gc, hge, _⟩ := hg.1.len
  obtain ⟨gg, c, w1, hap, hown3, hgb, hat, hlt⟩ := run_append_lies (P := Tryd.prog) (w.alloc (.cells #[.int .i64 e, gv] 65)) 35 35 E.w0.heap.size 65 i0 _ 2 32 Tryd.underlying35 hi0 hz0 hz1 hz2 rfl (by omega) ov s.out.length (wayCells s.out gs) hown2 ⟨w.heap.size, 0, none⟩ 1 1 [.int .i64 e, gv] rfl
    (fun j u hu => by rw [Addr.add_lit, Nat.zero_add, World.cell?_alloc_mark]; simpa using hu) (fun u hu => by
      simp only [List.mem_cons, List.not_mem_nil, or_false] at hu
      rcases hu with rfl | rfl <;> first | rfl | (rw [hge]; rfl)) (by omega) (by unfold maxLen; omega) (by omega) (by have := hl2.grew.size; exact this) (w.heap.size + 1) (by simp)
  obtain ⟨M3, hst, hT⟩ := hl2.told (x := (e, h)) (gv := gv) (hg.kept (Turn.of_grew hga)) hgl (fun y hy => (hgg y hy).kept (Turn.of_grew hga)) hgb hown3 (by rcases hat with h | h; exact Or.inl h; exact Or.inr (by rw [h]; simp)) hlt
  have hT2 := (Turn.of_grew (M := M) hga).trans hT
  have c1 : w.cell? ⟨E.ob, 0, none⟩ = some ov := by unfold World.cell?; dsimp only; rw [o1]; rfl
  have HC1 := hidd c1
  have hobl : E.ob < w.heap.size := lt_of_cell c1
  have c2 : w1.cell? ⟨E.ob, 0, none⟩ = some ov := by
    rw [World.cell?_of_block (hgb.block _ (Nat.lt_of_lt_of_le hobl hga.size) (Ne.symm hno))]; exact hga.keeps c1
  have f2 : w1.frozen? ⟨E.ob, 0, none⟩ = false := by
    have hb1 : w1.heap[E.ob]? = some (.cells #[ov] 35 (0, 0)) := by rw [hgb.block _ (Nat.lt_of_lt_of_le hobl hga.size) (Ne.symm hno), hga.block _ hobl]; exact o1
    unfold World.frozen?; dsimp only; rw [hb1]; rfl
  obtain ⟨w2, hw2⟩ : ∃ w2, w1.setCell ⟨E.ob, 0, none⟩ (.slice (some ⟨gg, 0, none⟩) (s.out.length + 1) c) = w2 := ⟨_, rfl⟩
  have c4 : (w1.setCell ⟨E.ob, 0, none⟩ (.slice (some ⟨gg, 0, none⟩) (s.out.length + 1) c)).cell? ⟨mb, 0, none⟩ = some (.int .i64 most) := hT2.cell o4 o5.2
  have c3 : (w1.setCell ⟨E.ob, 0, none⟩ (.slice (some ⟨gg, 0, none⟩) (s.out.length + 1) c)).cell? ⟨E.ob, 0, none⟩ = some (.slice (some ⟨gg, 0, none⟩) (s.out.length + 1) c) := by
    obtain ⟨o1', _⟩ := hst.out
    unfold World.cell?; dsimp only; rw [o1']; rfl
  have HX := hidd (And.intro hT2 hst)
  show Calls Tryd.prog 26 #[.int .i64 e, gv, .pointer (some ⟨E.ob, 0, none⟩), .pointer (some ⟨mb, 0, none⟩)] w _
  obtain ⟨n, hn⟩ : ∃ n, s.out.length = n := ⟨_, rfl⟩
  have hn4 : n ≤ 4096 := by omega
  rw [hge] at hap ⊢
  clear hge
  rw [hn] at hap c3 c4 HX hw2 hwn
  have hK : Hid ((Kw most e h s).2 = { s with out := s.out ++ [(e, h)], ways := s.ways + 1 }) := rfl
  obtain ⟨kr, hkr⟩ : ∃ kr, Kw most e h s = kr := ⟨_, rfl⟩
  have HXK : Hid (∃ M', Turn M M' w w2 ∧ St E (OW E mb most) w2 M' kr.2) := by
    rw [Hid, ← hkr, hK.out]
    rw [hw2] at HX
    exact ⟨M3, HX.out.1, _, _, HX.out.2⟩
  have HXW := hidd hw2
  have hle : gp = gp := rfl
  show Calls _ _ _ _ fun r w' => r = .returned (.int .i64 ((Kw most e h s).1 : Nat)) ∧ ∃ M', Turn M M' w w' ∧ St E (OW E mb most) w' M' (Kw most e h s).2
  have hk1 : (Kw most e h s).1 = if most ≤ s.ways + 1 then 1 else 0 := rfl
  rw [hkr] at hk1 ⊢
  have HP : Hid (∀ w3, w1.setCell ⟨E.ob, 0, none⟩ (.slice (some ⟨gg, 0, none⟩) (n + 1) c) = w3 → ∃ M', Turn M M' w w3 ∧ St E (OW E mb most) w3 M' kr.2) := fun w3 e3 => by rw [← e3, hw2]; exact HXK.out
  by_cases he : n + 1 = most
  · have t1 : ((n : Int) + 1 == (most : Int)) = true := by rw [beq_iff_eq]; omega
    have t2 : (n + 1 == most) = true := by rw [beq_iff_eq]; exact he
    have HK1 : Hid (kr.1 = 1) := by rw [Hid, hk1, if_pos (by omega)]
    clear hl hown hgg hgl hown2 hown3 hgb hat hlt hst hT hT2 o1 o3 o4 o5 hl2 hga hg h0 h1 h2 h3 h4 ha hw hno hobl hw2 he hn hwn hV hkr hk1 hK HX HXK HXW hle c1
    have c1 := HC1.out
    go_enter Tryd.func26, Tryd.ntmps26
    go_wp2_with (at_builtin; refine wpList_append_eq rfl rfl rfl rfl hap ?_)
    go_ret
    exact ⟨by rw [HK1.out]; rfl, HP.out _ rfl⟩
  · have t1 : ((n : Int) + 1 == (most : Int)) = false := by rw [beq_eq_false_iff_ne]; omega
    have t2 : (n + 1 == most) = false := by rw [beq_eq_false_iff_ne]; exact he
    have HK1 : Hid (kr.1 = 0) := by rw [Hid, hk1, if_neg (by omega)]
    clear hl hown hgg hgl hown2 hown3 hgb hat hlt hst hT hT2 o1 o3 o4 o5 hl2 hga hg h0 h1 h2 h3 h4 ha hw hno hobl hw2 he hn hwn hV hkr hk1 hK HX HXK HXW hle c1
    have c1 := HC1.out
    go_enter Tryd.func26, Tryd.ntmps26
    go_wp2_with (at_builtin; refine wpList_append_eq rfl rfl rfl rfl hap ?_)
    go_ret
    exact ⟨by rw [HK1.out]; rfl, HP.out _ rfl⟩
end Go.Proofs.YtcmdhgamlhnioaaDoor
/-! The document's Ways: what the form tells. -/
namespace Go.Proofs.YtcmdhgamlhnioaaDoor
open Go.RowKit
set_option linter.unusedVariables false
theorem WaysV.of_m {w : World} {M : Nat → Prop} {B : Nat} {v : Value} {l : List Way} (h : WaysM w M B v l) : WaysV w v l := by
  obtain ⟨gs, hl, h0, hg⟩ := h
  have h := h0
  rcases h.2 with ⟨h1, h2⟩ | ⟨g, cap, cur, h1, h2, h3, h4, h5, h6, h7⟩
  · exact Or.inl ⟨_, _, h1, List.eq_nil_of_length_eq_zero h2⟩
  · subst h1
    rcases Nat.eq_zero_or_pos l.length with hz | hz
    · exact Or.inl ⟨_, _, by rw [hz], List.eq_nil_of_length_eq_zero hz⟩
    · refine Or.inr ⟨g, 0, cap, rfl, hz, h4, h5, fun i hi => ?_⟩
      obtain ⟨e1, e2⟩ := wayCells_at l gs hl i hi
      have k1 := World.ownsRow.cellAt h0 (i * 2) (by omega)
      have k2 := World.ownsRow.cellAt h0 (i * 2 + 1) (by omega)
      have hgi : i < gs.length := by omega
      rw [Nat.zero_add, k1, k2]
      rw [List.getD_eq_getElem?_getD, e1, List.getD_eq_getElem?_getD, e2, List.getElem?_eq_getElem hgi]
      refine ⟨rfl, _, rfl, (hg (l.getD i way0, gs[i]) ?_).1⟩
      rw [List.getD_eq_getElem?_getD, List.getElem?_eq_getElem hi]
      have : (l.zip gs)[i]'(by rw [List.length_zip]; omega) = (l[i], gs[i]) := List.getElem_zip
      show (l[i], gs[i]) ∈ _
      rw [← this]
      exact List.getElem_mem _
theorem after_tell {fuel : Nat} : ∀ (T : Tr) (m k : Nat), after [] (tell fuel m k T) = tell fuel m k T
  | T, 0, k => by cases T <;> rfl
  | .stop .done, m + 1, k => rfl
  | .stop .cut, m + 1, k => rfl
  | .stop .deep, m + 1, k => rfl
  | .stop .name, m + 1, k => rfl
  | .tick t, m + 1, k => by
    rw [tell]
    split
    · rfl
    · exact after_tell t (m + 1) (k + 1)
  | .say g t, m + 1, k => by rw [tell]; exact after_tell t (m + 1) k
  | .way a g t, m + 1, k => by
    rw [tell]
    obtain ⟨l, c, e, h⟩ : ∃ l c e, tell fuel m k t = (l, c, e) := ⟨_, _, _, rfl⟩
    rw [h]
    dsimp only
    split
    · rfl
    · rename_i he; unfold after; dsimp only; rw [if_neg he]
def WaysREnd (w : World) (r : List Way × Bool × Int) (e : Ending) (w' : World) : Prop := Grew w w' ∧ ∃ v, e = .returned (.tuple #[v, .bool r.2.1, .int .i64 r.2.2]) ∧ WaysV w' v r.1
theorem waysV_nil (w : World) : WaysV w (.slice none 0 0) [] := Or.inl ⟨_, _, rfl, rfl⟩
/-- How the asker begins. -/
theorem way_start {w W : World} {rv : Value} {S : ByteArray} {fuel most mb : Nat} (hg : Grew w W) (hc : W.cell? ⟨mb, 0, none⟩ = some (.int .i64 most)) :
    LkSt (⟨w, W.heap.size, W.heap.size + 1, rv, S, fuel, most - 1⟩ : Env) (OW (⟨w, W.heap.size, W.heap.size + 1, rv, S, fuel, most - 1⟩ : Env) mb most) ((W.alloc (.cells (lookCells rv S fuel 0 (.slice none 0 0) 0) 53)).alloc (.cells #[.slice none 0 0] 35)) (fun k => k = W.heap.size ∨ k = W.heap.size + 1) (⟨0, [], 0, [], 0⟩ : LS (List Way)) (.slice none 0 0) (.slice none 0 0) := by
  have g1 : Grew W (W.alloc (.cells (lookCells rv S fuel 0 (.slice none 0 0) 0) 53)) := (Grew.refl W).alloc _
  have s1 : (W.alloc (.cells (lookCells rv S fuel 0 (.slice none 0 0) 0) 53)).heap.size = W.heap.size + 1 := by simp
  have g2 : Grew (W.alloc (.cells (lookCells rv S fuel 0 (.slice none 0 0) 0) 53)) ((W.alloc (.cells (lookCells rv S fuel 0 (.slice none 0 0) 0) 53)).alloc (.cells #[.slice none 0 0] 35)) := (Grew.refl _).alloc _
  have s2 : ((W.alloc (.cells (lookCells rv S fuel 0 (.slice none 0 0) 0) 53)).alloc (.cells #[.slice none 0 0] 35)).heap.size = W.heap.size + 2 := by simp
  have hmlt : mb < W.heap.size := lt_of_cell hc
  refine ⟨?_, ⟨rfl, .inl ⟨rfl, rfl⟩⟩, ⟨?_, ⟨[], rfl, ⟨rfl, .inl ⟨rfl, rfl⟩⟩, fun x hx => by simp at hx⟩, rfl, (g1.trans g2).keeps hc, ⟨?_, ?_⟩⟩, hg.trans (g1.trans g2), fun k => by simp [Value.ownBlock], fun k hk => ?_, fun k hk => ?_, ?_, ?_, ?_, ?_⟩
  · rw [g2.block _ (by rw [s1]; exact Nat.lt_succ_self _)]; exact heap_alloc_new W _
  · show _[W.heap.size + 1]? = _
    rw [← s1]; exact heap_alloc_new _ _
  · rw [s2]; omega
  · rintro (h | h) <;> omega
  · have := hg.size
    show w.heap.size ≤ k
    rcases hk with h | h <;> omega
  · rw [s2]; rcases hk with h | h <;> omega
  · show W.heap.size ≠ W.heap.size + 1; omega
  · simp [Value.ownBlock]
  · simp [Value.ownBlock]
  · intro b hb; simp [Value.ownBlock] at hb
section
variable {v : Value} {R : List Rule} {kv : Value} {p : Pat} {s : ByteArray} {w : World}
set_option maxRecDepth 100000 in
set_option maxHeartbeats 8000000 in
theorem WaysR_any (a most fuel : Int) (hR : RulesAt w v R) (hp : PatV w kv p) (hs : s.size ≤ maxLen) (hf : -9223372036854775808 ≤ fuel ∧ fuel ≤ 9223372036854775807) (hB : nodesP p ≤ 2000000) (hBR : ∀ r ∈ R, nodesP r.2 ≤ 2000000) :
    Calls Tryd.prog 11 #[v, .agg (p.cells kv), .string s, .int .i64 a, .int .i64 most, .int .i64 fuel] w fun e w' => WaysREnd w (waysOf R p s a most fuel) e w' := by
  obtain ⟨ra, rc, rfl, _⟩ := hR.len
  obtain ⟨ka, kc, ekv, hkl⟩ := hp.kids.len
  subst ekv
  have HA : Hid (∀ w1, Grew w w1 → Calls Tryd.prog 17 #[.slice ra R.length rc, .agg (p.cells (.slice ka p.kids.length kc)), .string s, .int .i64 fuel] w1 fun e w' => e = .returned (.int .i64 (askErr R p s fuel)) ∧ Grew w1 w') := fun w1 g => AskR_any _ R _ p s fuel w1 (hR.kept g) (hp.kept g) hs hf hB hBR
  have HBx := hidd (pat_box w p (.slice ka p.kids.length kc))
  have HRA := hidd hR
  have HPV := hidd hp
  have g1 : Grew w (w.alloc (.cells (p.cells (.slice ka p.kids.length kc)) 25)) := (Grew.refl w).alloc _
  have g2 : Grew (w.alloc (.cells (p.cells (.slice ka p.kids.length kc)) 25)) ((w.alloc (.cells (p.cells (.slice ka p.kids.length kc)) 25)).alloc (.cells #[.int .i64 most] 3)) := (Grew.refl _).alloc _
  have HG0 := hidd (g1.trans g2)
  have HMb : Hid (((w.alloc (.cells (p.cells (.slice ka p.kids.length kc)) 25)).alloc (.cells #[.int .i64 most] 3)).cell? ⟨w.heap.size + 1, 0, none⟩ = some (.int .i64 most)) := by
    have s1 : (w.alloc (.cells (p.cells (.slice ka p.kids.length kc)) 25)).heap.size = w.heap.size + 1 := by simp
    have := World.cell?_alloc_mark (w.alloc (.cells (p.cells (.slice ka p.kids.length kc)) 25)) #[.int .i64 most] 3 (0, 0) 0
    rw [s1] at this
    rw [Hid, this]; rfl
  have HG2 := hidd g2
  clear hR hp hf hs hB hBR g1 g2
  obtain ⟨ae, hae⟩ : ∃ ae, askErr R p s fuel = ae := ⟨_, rfl⟩
  obtain ⟨kl, hkl2⟩ : ∃ kl, p.kids.length = kl := ⟨_, rfl⟩
  have HPV2 := HPV
  rw [hae] at HA
  have HAE := hidd hae
  unfold Pat.cells at HA HG0 HMb HG2 HBx ⊢
  rw [hkl2] at HA HG0 HMb HG2 HBx HPV ⊢
  obtain ⟨c0, c1, c2, c3, c4⟩ := HBx.out _ HG2.out
  have hmb := HMb.out
  clear hae hkl2 hkl
  by_cases h0 : ae = 0
  · subst h0
    have h0 : askErr R p s fuel = 0 := HAE.out
    by_cases hr : a < 0 ∨ (s.size : Int) < a ∨ most < 0 ∨ 4096 < most
    · have HE : Hid (waysOf R p s a most fuel = ([], false, 3)) := by rw [Hid, waysOf, if_pos h0, if_pos hr]
      have hr2 : a < 0 ∨ (0 ≤ a ∧ (s.size : Int) < a) ∨ (0 ≤ a ∧ a ≤ (s.size : Int) ∧ most < 0) ∨ (0 ≤ a ∧ a ≤ (s.size : Int) ∧ 0 ≤ most ∧ 4096 < most) := by omega
      clear hr h0
      rcases hr2 with k | k | k | k
      all_goals
        obtain ⟨b1, hb1⟩ : ∃ b, decide (a < 0) = b := ⟨_, rfl⟩
        obtain ⟨b2, hb2⟩ : ∃ b, decide ((s.size : Int) < a) = b := ⟨_, rfl⟩
        obtain ⟨b3, hb3⟩ : ∃ b, decide (most < 0) = b := ⟨_, rfl⟩
        obtain ⟨b4, hb4⟩ : ∃ b, decide (4096 < most) = b := ⟨_, rfl⟩
        have q1 := hb1
        have q2 := hb2
        have q3 := hb3
        have q4 := hb4
        first | (rw [decide_eq_true (show a < 0 by omega)] at q1; subst q1) | (rw [decide_eq_false (show ¬ a < 0 by omega)] at q1; subst q1)
        first | (rw [decide_eq_true (show (s.size : Int) < a by omega)] at q2; subst q2) | (rw [decide_eq_false (show ¬ (s.size : Int) < a by omega)] at q2; subst q2) | clear hb2 q2
        first | (rw [decide_eq_true (show most < 0 by omega)] at q3; subst q3) | (rw [decide_eq_false (show ¬ most < 0 by omega)] at q3; subst q3) | clear hb3 q3
        first | (rw [decide_eq_true (show 4096 < most by omega)] at q4; subst q4) | (rw [decide_eq_false (show ¬ 4096 < most by omega)] at q4; subst q4) | clear hb4 q4
        clear k
        go_enter Tryd.func11, Tryd.ntmps11
        go_wp2_with fail
        refine (HA.out _ HG0.out).mono ?_; rintro e w0 ⟨rfl, G2⟩
        have HG := hidd (HG0.out.trans G2)
        have hmb2 := G2.keeps hmb
        clear G2 c0 c1 c2 c3 c4 hmb
        go_wp2_with fail
        go_ret3
        rw [HE.out]
        exact ⟨HG.out, _, rfl, waysV_nil _⟩
    · obtain ⟨n1, n2, n3, n4, n5, n6⟩ := ask_none h0
      have HE : Hid (waysOf R p s a most fuel = tell fuel.toNat most.toNat 0 (den R s (fuel.toNat + 1) p a.toNat [])) := by rw [Hid, waysOf, if_pos h0, if_neg hr]
      obtain ⟨a, rfl⟩ : ∃ n : Nat, a = n := ⟨a.toNat, by omega⟩
      obtain ⟨most, rfl⟩ : ∃ n : Nat, most = n := ⟨most.toNat, by omega⟩
      obtain ⟨fuel, rfl⟩ : ∃ n : Nat, fuel = n := ⟨fuel.toNat, by omega⟩
      rw [Int.toNat_natCast, Int.toNat_natCast, Int.toNat_natCast] at HE
      have e1 : decide ((a : Int) < 0) = false := decide_eq_false (by omega)
      have e2 : decide (s.size < a) = false := decide_eq_false (by omega)
      have e2' : decide ((s.size : Int) < (a : Int)) = false := decide_eq_false (by omega)
      have e3 : decide ((most : Int) < 0) = false := decide_eq_false (by omega)
      have e4 : decide ((4096 : Int) < (most : Int)) = false := decide_eq_false (by omega)
      have N := hidd (And.intro n1 (And.intro n2 (And.intro n3 (And.intro n4 n6))))
      have HA1 : Hid (a ≤ s.size ∧ most ≤ 4096 ∧ fuel ≤ 100000) := ⟨by omega, by omega, by omega⟩
      clear hr n1 n2 n3 n4 n5 n6 h0 HAE
      rcases Nat.eq_zero_or_pos most with hm0 | hm0
      · have m0 : ((most : Int) == 0) = true := by rw [beq_iff_eq]; omega
        have HE2 : Hid (waysOf R p s a most fuel = ([], false, 0)) := by rw [Hid, HE.out, hm0]; rfl
        have m1 : (most == 0) = true := by rw [beq_iff_eq]; exact hm0
        clear hm0
        go_enter Tryd.func11, Tryd.ntmps11
        go_wp2_with fail
        refine (HA.out _ HG0.out).mono ?_; rintro e w0 ⟨rfl, G2⟩
        have HG := hidd (HG0.out.trans G2)
        have hmb2 := G2.keeps hmb
        clear G2 c0 c1 c2 c3 c4 hmb
        go_wp2_with fail
        go_ret3
        rw [HE2.out]
        exact ⟨HG.out, _, rfl, waysV_nil _⟩
      · have m0 : ((most : Int) == 0) = false := by rw [beq_eq_false_iff_ne]; omega
        have m1 : (most == 0) = false := by rw [beq_eq_false_iff_ne]; omega
        have HM0 := hidd hm0
        clear hm0
        go_enter Tryd.func11, Tryd.ntmps11
        go_wp2_with fail
        refine (HA.out _ HG0.out).mono ?_; rintro e w0 ⟨rfl, G2⟩
        have hg0 := HG0.out.trans G2
        have hmb2 := G2.keeps hmb
        obtain ⟨d0, d1, d2, d3, d4⟩ := HBx.out _ (HG2.out.trans G2)
        have HG := hidd hg0
        have hst := way_start (rv := .slice ra R.length rc) (S := s) (fuel := fuel) (most := most) hg0 hmb2
        have hT := Try_any (E := (⟨w, w0.heap.size, w0.heap.size + 1, .slice ra R.length rc, s, fuel, most - 1⟩ : Env)) (O := OW (⟨w, w0.heap.size, w0.heap.size + 1, .slice ra R.length rc, s, fuel, most - 1⟩ : Env) (w.heap.size + 1) most) (R := R) (ow_ok _ _ _) (by show fuel ≤ 100000; exact HA1.out.2.2) (by show s.size ≤ 65536; exact N.out.2.2.2.1) (by show most - 1 ≤ 5000; have := HA1.out.2.1; omega) HRA.out N.out.2.2.1 fuel
        have hcl := way_clo (E := (⟨w, w0.heap.size, w0.heap.size + 1, .slice ra R.length rc, s, fuel, most - 1⟩ : Env)) (mb := w.heap.size + 1) (most := most) (w0 := (w0.alloc (.cells (lookCells (.slice ra R.length rc) s fuel 0 (.slice none 0 0) 0) 53)).alloc (.cells #[.slice none 0 0] 35)) (M0 := fun k => k = w0.heap.size ∨ k = w0.heap.size + 1) (lo := 0 + 1) (d := 0) (a0 := a) (by show most = most - 1 + 1; have := HM0.out; omega) HA1.out.2.1 (by show s.size ≤ 65536; exact N.out.2.2.2.1)
        obtain ⟨kr, hkr⟩ : ∃ kr, runK fuel (den R s (fuel + 1) p a []) (Kw most) (⟨0, [], 0, [], 0⟩ : LS (List Way)) = kr := ⟨_, rfl⟩
        have hans : ansW kr = waysOf R p s a most fuel := by
          have h1 := runK_tell (fuel := fuel) (most := most) (den R s (fuel + 1) p a []) (most - 1) (⟨0, [], 0, [], 0⟩ : LS (List Way)) (by show 0 + (most - 1 + 1) = most; have := HM0.out; omega) (Nat.zero_le _)
          rw [hkr] at h1
          rw [h1, HE.out, show most - 1 + 1 = most by have := HM0.out; omega]
          exact after_tell _ _ _
        have hn4 : kr.1 ≠ 4 := by
          rw [← hkr]
          refine runK_late (fun a g s hs => ⟨?_, Nat.le_refl _, hs⟩) _ (fuel + 1) _ (den_late R s (fuel + 1) p a []) (by show fuel < 0 + (fuel + 1); omega) (Nat.zero_le _)
          show (if most ≤ s.ways + 1 then 1 else 0) ≠ 4
          split <;> omega
        have HTry : Hid (Calls Tryd.prog 18 #[.pointer (some ⟨w0.heap.size, 0, none⟩), .agg (p.cells (.slice ka kl kc)), .int .i64 a, .slice none 0 0, .func (.func 26) #[] #[.pointer (some ⟨w0.heap.size + 1, 0, none⟩), .pointer (some ⟨w.heap.size + 1, 0, none⟩)]] ((w0.alloc (.cells (lookCells (.slice ra R.length rc) s fuel 0 (.slice none 0 0) 0) 53)).alloc (.cells #[.slice none 0 0] 35)) fun r w' => r = .returned (.int .i64 (kr.1 : Nat)) ∧ ∃ p n c, w'.cell? ⟨w0.heap.size, 5, none⟩ = some (.int .i64 kr.2.err) ∧ w'.cell? ⟨w0.heap.size + 1, 0, none⟩ = some (.slice p n c) ∧ Hid (WaysV w' (.slice p n c) kr.2.out ∧ Grew w w')) := by
          refine (hT _ _ _ p (.slice ka kl kc) a (.slice none 0 0) [] 0 _ _ (Kw most) ⟨_, _, hst⟩ HPV.out N.out.1 (gv_nil _ _) HA1.out.1 (Nat.zero_le _) (by show fuel ≤ 0 + fuel; omega) (Nat.zero_le _) (by simp) (Nat.zero_le _) hcl).mono ?_
          rintro r w4 ⟨rfl, M', hT4, ⟨sv, ov, hst4⟩⟩
          have hst5 : LkSt (⟨w, w0.heap.size, w0.heap.size + 1, .slice ra R.length rc, s, fuel, most - 1⟩ : Env) (OW (⟨w, w0.heap.size, w0.heap.size + 1, .slice ra R.length rc, s, fuel, most - 1⟩ : Env) (w.heap.size + 1) most) w4 M' kr.2 sv ov := by rw [← hkr]; exact hst4
          obtain ⟨o1, om, _⟩ := hst5.out
          have hwv := WaysV.of_m om
          obtain ⟨pp, cc, eo, _⟩ := hwv.len
          refine ⟨by rw [← hkr], pp, _, cc, hst5.cell rfl, ?_, by rw [← eo]; exact hwv, hst5.grew⟩
          unfold World.cell?; dsimp only; rw [o1, ← eo]; rfl
        have HAns := hidd hans
        have HN4 := hidd hn4
        clear hkr hans hn4
        unfold lookCells Pat.cells at HTry
        have hms : ∀ o o', ((w0.alloc o).alloc o').cell? ⟨w.heap.size + 1, 0, none⟩ = some (.int .i64 most) := fun o o' => (((Grew.refl w0).alloc o).alloc o').keeps hmb2
        have k0 : ∀ o o', ((w0.alloc o).alloc o').cell? ⟨w.heap.size, 0, none⟩ = some (.int .i64 p.kind) := fun o o' => (((Grew.refl w0).alloc o).alloc o').keeps d0
        have k1 : ∀ o o', ((w0.alloc o).alloc o').cell? ⟨w.heap.size, 1, none⟩ = some (.string p.text) := fun o o' => (((Grew.refl w0).alloc o).alloc o').keeps d1
        have k2 : ∀ o o', ((w0.alloc o).alloc o').cell? ⟨w.heap.size, 2, none⟩ = some (.int .i64 p.n) := fun o o' => (((Grew.refl w0).alloc o).alloc o').keeps d2
        have k3 : ∀ o o', ((w0.alloc o).alloc o').cell? ⟨w.heap.size, 3, none⟩ = some (.string p.name) := fun o o' => (((Grew.refl w0).alloc o).alloc o').keeps d3
        have k4 : ∀ o o', ((w0.alloc o).alloc o').cell? ⟨w.heap.size, 4, none⟩ = some (.slice ka kl kc) := fun o o' => (((Grew.refl w0).alloc o).alloc o').keeps d4
        clear G2 hg0 hst hT hcl c0 c1 c2 c3 c4 hmb
        go_wp2_with fail
        obtain ⟨kc1, ks⟩ := kr
        dsimp only at HTry HAns HN4
        refine HTry.out.mono ?_; rintro r w4 ⟨rfl, pp, nn, cc, c5, co, HF⟩
        clear k0 k1 k2 k3 k4 hms d0 d1 d2 d3 d4 hmb2
        by_cases h3 : kc1 = 3
        · have e5 : ((kc1 : Int) == 3) = true := by rw [beq_iff_eq]; omega
          have HW : Hid (waysOf R p s a most fuel = ([], false, ks.err)) := by
            rw [Hid, ← HAns.out]; unfold ansW; dsimp only; rw [if_pos h3]
          clear h3
          obtain ⟨er, her⟩ : ∃ er, ks.err = er := ⟨_, rfl⟩
          rw [her] at c5 HW
          clear her
          go_wp2_with fail
          go_quiet (fail)
          go_wp2_with fail
          go_ret3
          rw [HW.out]
          exact ⟨HF.out.2.drewN _, _, rfl, waysV_nil _⟩
        · have e5 : ((kc1 : Int) == 3) = false := by rw [beq_eq_false_iff_ne]; omega
          obtain ⟨b2, hb2⟩ : ∃ b, ((kc1 : Int) == 2) = b := ⟨_, rfl⟩
          have HW : Hid (waysOf R p s a most fuel = (ks.out, b2, 0)) := by
            rw [Hid, ← HAns.out]; unfold ansW; dsimp only; rw [if_neg h3, if_neg HN4.out, ← hb2]
            congr 2
            rw [Bool.eq_iff_iff, beq_iff_eq, beq_iff_eq]; omega
          clear h3
          go_wp2_with fail
          go_ret3
          rw [HW.out]
          exact ⟨HF.out.2, _, rfl, HF.out.1⟩
  · have e0 : (ae == 0) = false := beq_eq_false_iff_ne.2 h0
    have HE : Hid (waysOf R p s a most fuel = ([], false, ae)) := by rw [Hid, waysOf, if_neg (by rw [HAE.out]; exact h0), HAE.out]
    clear h0
    go_enter Tryd.func11, Tryd.ntmps11
    go_wp2_with fail
    refine (HA.out _ HG0.out).mono ?_; rintro e w0 ⟨rfl, G2⟩
    have HG := hidd (HG0.out.trans G2)
    clear G2 c0 c1 c2 c3 c4 hmb
    go_wp2_with fail
    go_ret3
    rw [HE.out]
    exact ⟨HG.out, _, rfl, waysV_nil _⟩
end
end Go.Proofs.YtcmdhgamlhnioaaDoor
/-! ScanWays: the walk. Conditions: what the arguments are read as, at most two million nodes; the library's table of powers of ten. -/
namespace Go.Proofs.YtcmdhgamlhnioaaDoor
open Go.RowKit
set_option linter.unusedVariables false
section
variable {v : Value} {R : List Rule} {kv : Value} {p : Pat} {s : ByteArray} {w : World}
set_option maxRecDepth 100000 in
set_option maxHeartbeats 4000000 in
theorem ScanWays_walk (a most fuel : Int) (hR : RulesAt w v R) (hp : PatV w kv p) (hs : s.size ≤ maxLen) (ha : -9223372036854775808 ≤ a ∧ a ≤ 9223372036854775807) (hm : -9223372036854775808 ≤ most ∧ most ≤ 9223372036854775807) (hf : -9223372036854775808 ≤ fuel ∧ fuel ≤ 9223372036854775807) (hT : TabP w) (hBR : ∀ r ∈ R, nodesP r.2 ≤ 2000000) (hB : nodesP p ≤ 2000000) :
    Calls Tryd.prog 4 #[v, .agg (p.cells kv), .string s, .int .i64 a, .int .i64 most, .int .i64 fuel] w fun e w' => e = .returned (.bool true) ∧ Grew w w' := by
  obtain ⟨ra, rc, rfl, _⟩ := hR.len
  obtain ⟨ka, kc, ekv, hkl⟩ := hp.kids.len
  subst ekv
  have hg0 : Grew w (w.alloc (.cells (p.cells (.slice ka p.kids.length kc)) 25)) := (Grew.refl w).alloc _
  have H1 : Hid (∀ w1, Grew (w.alloc (.cells (p.cells (.slice ka p.kids.length kc)) 25)) w1 → Calls Tryd.prog 8 #[.slice ra R.length rc] w1 fun e w' => e = .returned (.int .i64 (rulesErr R)) ∧ Grew (w.alloc (.cells (p.cells (.slice ka p.kids.length kc)) 25)) w') := fun w1 g => (Rules_any _ R w1 (hR.kept (hg0.trans g))).mono fun e w' ⟨h1, h2⟩ => ⟨h1, g.trans h2⟩
  have H2 : Hid (∀ w1, Grew (w.alloc (.cells (p.cells (.slice ka p.kids.length kc)) 25)) w1 → Calls Tryd.prog 9 #[.slice ra R.length rc] w1 fun e w' => e = .returned (.int .i64 (rulesErr R)) ∧ Grew (w.alloc (.cells (p.cells (.slice ka p.kids.length kc)) 25)) w') := fun w1 g => (RulesR_any _ R w1 (hR.kept (hg0.trans g)) hBR).mono fun e w' ⟨h1, h2⟩ => ⟨h1, g.trans h2⟩
  have H3 : Hid (∀ w1, Grew (w.alloc (.cells (p.cells (.slice ka p.kids.length kc)) 25)) w1 → Calls Tryd.prog 10 #[.slice ra R.length rc, .agg (p.cells (.slice ka p.kids.length kc)), .string s, .int .i64 a, .int .i64 most, .int .i64 fuel] w1 fun e w' => ∃ p1 n1 c1, e = .returned (.tuple #[.slice p1 n1 c1, .bool (waysOf R p s a most fuel).2.1, .int .i64 (waysOf R p s a most fuel).2.2]) ∧ Hid (WaysV w' (.slice p1 n1 c1) (waysOf R p s a most fuel).1 ∧ Grew (w.alloc (.cells (p.cells (.slice ka p.kids.length kc)) 25)) w')) := fun w1 g =>
    (Ways_any a most fuel (hR.kept (hg0.trans g)) (hp.kept (hg0.trans g)) hs hf (hT.kept (hg0.trans g))).mono fun e w' ⟨g2, x, he, hw⟩ => by
      have hv := WaysV.of_at hw
      obtain ⟨p1, c1, e1, _⟩ := hv.len
      exact ⟨p1, _, c1, by rw [he, e1], by rw [← e1]; exact hv, g.trans g2⟩
  have H4 : Hid (∀ w1, Grew (w.alloc (.cells (p.cells (.slice ka p.kids.length kc)) 25)) w1 → Calls Tryd.prog 11 #[.slice ra R.length rc, .agg (p.cells (.slice ka p.kids.length kc)), .string s, .int .i64 a, .int .i64 most, .int .i64 fuel] w1 fun e w' => ∃ p1 n1 c1, e = .returned (.tuple #[.slice p1 n1 c1, .bool (waysOf R p s a most fuel).2.1, .int .i64 (waysOf R p s a most fuel).2.2]) ∧ Hid (WaysV w' (.slice p1 n1 c1) (waysOf R p s a most fuel).1 ∧ Grew w1 w' ∧ Grew (w.alloc (.cells (p.cells (.slice ka p.kids.length kc)) 25)) w')) := fun w1 g =>
    (WaysR_any a most fuel (hR.kept (hg0.trans g)) (hp.kept (hg0.trans g)) hs hf hB hBR).mono fun e w' ⟨g2, x, he, hv⟩ => by
      obtain ⟨p1, c1, e1, _⟩ := hv.len
      exact ⟨p1, _, c1, by rw [he, e1], by rw [← e1]; exact hv, g2, g.trans g2⟩
  have HBx := hidd (pat_box w p (.slice ka p.kids.length kc))
  have HG0 : Hid (Grew w (w.alloc (.cells (p.cells (.slice ka p.kids.length kc)) 25))) := (Grew.refl w).alloc _
  clear hR hp hs ha hm hf hT hB hBR hkl hg0
  obtain ⟨l, b, er, hl⟩ : ∃ l b er, waysOf R p s a most fuel = (l, b, er) := ⟨_, _, _, rfl⟩
  rw [hl] at H3 H4
  dsimp only at H3 H4
  obtain ⟨re, hre⟩ : ∃ re, rulesErr R = re := ⟨_, rfl⟩
  rw [hre] at H1 H2
  obtain ⟨kl, hkl⟩ : ∃ kl, p.kids.length = kl := ⟨_, rfl⟩
  unfold Pat.cells at H1 H2 H3 H4 HBx HG0 ⊢
  rw [hkl] at H1 H2 H3 H4 HBx HG0 ⊢
  have HS : Hid (∀ w1 v1 v2, WaysV w1 v1 l → WaysV w1 v2 l → Calls Tryd.prog 12 #[v1, v2] w1 fun e w' => e = .returned (.bool true) ∧ ∃ n, w' = w1.drewN n) := fun w1 v1 v2 h1 h2 => by
    have := SameWays_any h1 h2
    rw [decide_eq_true rfl] at this
    exact this
  clear hl hre hkl
  go_enter Tryd.func4, Tryd.ntmps4
  go_wp2_with fail
  refine (H1.out _ (Grew.refl _)).mono ?_; rintro e w1 ⟨rfl, hg1⟩
  have G1 := hidd hg1
  clear hg1
  go_wp2_with fail
  refine (H2.out w1 G1.out).mono ?_; rintro e w2 ⟨rfl, hg2⟩
  have G2 := hidd hg2
  clear hg2
  have er0 : (re == re) = true := beq_self_eq_true re
  obtain ⟨c0, c1, c2, c3, c4⟩ := HBx.out w2 G2.out
  go_wp2_with fail
  refine (H3.out w2 G2.out).mono ?_; rintro e w3 ⟨p1, n1, q1, rfl, HV⟩
  clear c0 c1 c2 c3 c4
  obtain ⟨c0, c1, c2, c3, c4⟩ := HBx.out w3 HV.out.2
  go_wp2_with fail
  refine (H4.out w3 HV.out.2).mono ?_; rintro e w4 ⟨p2, n2, q2, rfl, HV2⟩
  clear c0 c1 c2 c3 c4
  have er1 : (er == er) = true := beq_self_eq_true er
  have eb1 : (b == b) = true := beq_self_eq_true b
  have HSm := hidd (HS.out w4 _ _ (HV.out.1.kept HV2.out.2.1) HV2.out.1)
  go_wp2_with fail
  refine HSm.out.mono ?_; rintro e w5 ⟨rfl, nd, rfl⟩
  go_wp2_with fail
  go_ret
  exact ⟨rfl, (HG0.out.trans HV2.out.2.2).drewN _⟩
end
end Go.Proofs.YtcmdhgamlhnioaaDoor
