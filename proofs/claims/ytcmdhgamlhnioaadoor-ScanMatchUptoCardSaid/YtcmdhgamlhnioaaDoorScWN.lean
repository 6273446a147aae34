/- The document's Match: what the form tells. -/
import Derived.Test.YtcmdhgamlhnioaaDoorScWF
import Derived.Test.YtcmdhgamlhnioaaDoorScWM
namespace Go.Proofs.YtcmdhgamlhnioaaDoor
open Go.RowKit
set_option linter.unusedVariables false
theorem results_matchR {w : World} {tmps : Array Value} {rb : Nat} {cs : Array Value} (hp : tmps.getD 10 undef = .pointer (some ⟨rb, 0, none⟩)) (hg : w.heap[rb]? = some (.cells cs 28 (0, 0))) (hc : cs.size = 6) :
    (results Tryd.f6 tmps).run Tryd.prog w = .ok (.tuple #[.agg cs, tmps.getD 11 undef]) w := by
  rw [results_cell_tmp (p := 10) (u := 11) (ty := 28) rfl, hp]
  have h := run_loadVar_row (P := Tryd.prog) w rb 28 28 cs (0, 0) _ hg Tryd.underlying28 rfl (by rw [hc]; exact info_match)
  simp [asAddr, h]
def MatchREnd (w : World) (r : Matched) (e : Ending) (w' : World) : Prop := Grew w w' ∧ ∃ gv sv, e = .returned (.tuple #[.agg #[.bool r.1.isSome, .int .i64 (match r.1 with | some (a, _, _) => (a : Int) | none => 0), .int .i64 (match r.1 with | some (_, b, _) => (b : Int) | none => 0), gv, sv, .int .i64 r.2.2.1], .int .i64 r.2.2.2]) ∧
  GiftsV w' gv (giftsOf r.1) ∧ GiftsV w' sv r.2.1
/-- How the asker begins. -/
theorem mat_start {w W : World} {rv : Value} {S : ByteArray} {fuel : Nat} (hg : Grew w W) :
    LkSt (⟨w, W.heap.size, W.heap.size + 1, rv, S, fuel, 0⟩ : Env) (OM (⟨w, W.heap.size, W.heap.size + 1, rv, S, fuel, 0⟩ : Env)) ((W.alloc (.cells (lookCells rv S fuel 0 (.slice none 0 0) 0) 53)).alloc (.cells zeroMatch 28)) (fun k => k = W.heap.size ∨ k = W.heap.size + 1) (⟨0, [], 0, none, 0⟩ : LS Fnd) (.slice none 0 0) (.bool false) := by
  have g1 : Grew W (W.alloc (.cells (lookCells rv S fuel 0 (.slice none 0 0) 0) 53)) := (Grew.refl W).alloc _
  have s1 : (W.alloc (.cells (lookCells rv S fuel 0 (.slice none 0 0) 0) 53)).heap.size = W.heap.size + 1 := by simp
  have g2 : Grew (W.alloc (.cells (lookCells rv S fuel 0 (.slice none 0 0) 0) 53)) ((W.alloc (.cells (lookCells rv S fuel 0 (.slice none 0 0) 0) 53)).alloc (.cells zeroMatch 28)) := (Grew.refl _).alloc _
  have s2 : ((W.alloc (.cells (lookCells rv S fuel 0 (.slice none 0 0) 0) 53)).alloc (.cells zeroMatch 28)).heap.size = W.heap.size + 2 := by simp
  refine ⟨?_, ⟨rfl, .inl ⟨rfl, rfl⟩⟩, ⟨.slice none 0 0, ?_, gv_nil _ _, rfl⟩, hg.trans (g1.trans g2), fun k => by simp [Value.ownBlock], fun k hk => ?_, fun k hk => ?_, ?_, ?_, ?_, ?_⟩
  · rw [g2.block _ (by rw [s1]; exact Nat.lt_succ_self _)]; exact heap_alloc_new W _
  · show _[W.heap.size + 1]? = _
    rw [← s1]; exact heap_alloc_new _ _
  · have := hg.size
    show w.heap.size ≤ k
    rcases hk with h | h <;> omega
  · rw [s2]; rcases hk with h | h <;> omega
  · show W.heap.size ≠ W.heap.size + 1; omega
  · simp [Value.ownBlock]
  · simp [Value.ownBlock]
  · intro b hb; simp [Value.ownBlock] at hb
/-- A row of gifts in a world in which its block is as it was. -/
theorem giftsV_of {w w' : World} {v : Value} {l : List Gift} (h : GiftsU w v l) (hb : ∀ b o x, v = .slice (some ⟨b, o, none⟩) l.length x → 0 < l.length → w'.heap[b]? = w.heap[b]?) : GiftsV w' v l := by
  rcases h with h | ⟨b, o, c, h1, h2, h3, h4, h5⟩
  · exact Or.inl h
  · have hk := hb b o c h1 h2
    exact Or.inr ⟨b, o, c, h1, h2, h3, h4, fun i hi => ⟨by rw [World.cell?_of_block hk]; exact (h5 i hi).1, by rw [World.cell?_of_block hk]; exact (h5 i hi).2⟩⟩
/-- A block of a match holds no gifts. -/
theorem match_no {w : World} {rb o : Nat} (h : ResAt w rb) {t : ByteArray} (hc : w.cell? ⟨rb, o, none⟩ = some (.string t)) : False := by
  have h : w.heap[rb]? = some (.cells zeroMatch 28 (0, 0)) := h
  unfold World.cell? at hc
  dsimp only at hc
  rw [h] at hc
  have hc : zeroMatch[o]? = some (.string t) := hc
  rcases o with _ | _ | _ | _ | _ | _ | o <;> simp [zeroMatch] at hc
/-- The search is over: what was found lies with the asker, what was said with the Look. -/
structure Over (E : Env) (rb : Nat) (w : World) (st : LS Fnd) (sv gv : Value) : Prop where
  look : w.heap[E.lb]? = some (.cells (lookCells E.rv E.S E.fuel st.ticks sv st.err) 53 (0, 0))
  out : w.heap[E.ob]? = some (.cells (mCells st.out gv) 28 (0, 0))
  res : ResAt w rb
  said : w.ownsRow E.w0.heap.size 57 2 sv st.said.length (saidCells st.said)
  gifts : GiftsU w gv (giftsOf st.out)
  ngv : ∀ b, gv.ownBlock = some b → b ≠ E.ob
  grew : Grew E.w0 w
  ne1 : E.lb ≠ E.ob
  ne2 : rb ≠ E.ob
  ne3 : rb ≠ E.lb
  low : E.w0.heap.size ≤ E.ob ∧ E.w0.heap.size ≤ rb
theorem LkSt.over {E : Env} {w : World} {M : Nat → Prop} {s : LS Fnd} {sv ov : Value} {rb : Nat} (h : LkSt E (OM E) w M s sv ov) (hr : ResAt w rb) (hrs : ¬ M rb) (hl : E.w0.heap.size ≤ rb) : ∃ gv, Over E rb w s sv gv := by
  have hm : M E.lb := (h.may _).2 (Or.inl rfl)
  have hmo : M E.ob := (h.may _).2 (Or.inr (Or.inl rfl))
  obtain ⟨gv, o1, o2, o3⟩ := h.out
  exact ⟨gv, h.look, o1, hr, h.said, o2.1, fun b hb e => (o2.2 b hb).2 (e ▸ hmo), h.grew, h.ne1, fun e => hrs (e ▸ hmo), fun e => hrs (e ▸ hm), h.low _ hmo, hl⟩
/-- What is kept through the rounds: the next place a, the box of it fb. -/
def MRound (E : Env) (R : List Rule) (p : Pat) (anch : Bool) (M0 : Nat → Prop) (W2 : World) (want : Matched) (a fb : Nat) (wr : World) : Prop :=
  ∃ M st, St E (OM E) wr M st ∧ Turn M0 M W2 wr ∧ wr.cell? ⟨fb, 0, none⟩ = some (.int .i64 a) ∧ wr.frozen? ⟨fb, 0, none⟩ = false ∧ Safe M wr fb ∧ st.out = none ∧ st.ways = 0 ∧ st.ticks ≤ E.fuel ∧ st.said.length ≤ 300000 * st.ticks ∧ (a ≠ 0 → anch = false) ∧ want = tryL R p E.S E.fuel anch (E.S.size + 1 - a) a st.ticks st.said
/-- What a Try comes to. -/
inductive MTry (E : Env) (R : List Rule) (p : Pat) (anch : Bool) (M0 : Nat → Prop) (W2 : World) (want : Matched) (a fb : Nat) : Nat → World → Prop
  | over (k : Nat) (w : World) (M : Nat → Prop) (st : LS Fnd) (hk : k = 1 ∨ k = 2 ∨ (k = 0 ∧ anch = true)) (h1 : St E (OM E) w M st) (h2 : Turn M0 M W2 w) (h3 : want = (st.out, st.said, st.ticks, 0)) : MTry E R p anch M0 W2 want a fb k w
  | next (w : World) (ha : anch = false) (h1 : ∀ fb2 w2, Grew w w2 → w2.cell? ⟨fb2, 0, none⟩ = some (.int .i64 ((a : Int) + 1)) → w2.frozen? ⟨fb2, 0, none⟩ = false → w.heap.size ≤ fb2 → MRound E R p anch M0 W2 want (a + 1) fb2 w2) (h2 : w.cell? ⟨fb, 0, none⟩ = some (.int .i64 a)) : MTry E R p anch M0 W2 want a fb 0 w
  | bad (w : World) (e : Int) (he : e = 10 ∨ e = 7) (M : Nat → Prop) (st : LS Fnd) (h1 : St E (OM E) w M st) (h2 : Turn M0 M W2 w) (h3 : want = (none, [], 0, e)) (h4 : st.err = e) : MTry E R p anch M0 W2 want a fb 3 w
theorem try_place {E : Env} {R : List Rule} {p : Pat} {anch : Bool} {M0 : Nat → Prop} {W2 : World} {want : Matched} {a fb : Nat} {wr : World} {kv : Value} (hr : MRound E R p anch M0 W2 want a fb wr) (ha : a ≤ E.S.size) (hp : PatV E.w0 kv p) (he : errW p = 0) (hf : E.fuel ≤ 100000) (hL : E.S.size ≤ 65536) (hV : E.V = 0) (hRA : RulesAt E.w0 E.rv R) (hRe : ∀ r ∈ R, errW r.2 = 0) :
    Calls Tryd.prog 18 #[.pointer (some ⟨E.lb, 0, none⟩), .agg (p.cells kv), .int .i64 a, .slice none 0 0, .func (.func 19) #[] #[.pointer (some ⟨fb, 0, none⟩), .pointer (some ⟨E.ob, 0, none⟩)]] wr fun r w' => ∃ k : Nat, r = .returned (.int .i64 k) ∧ MTry E R p anch M0 W2 want a fb k w' := by
  obtain ⟨M, st, h1, h2, h3, h4, h5, h6, h7, h8, h9, h10, h11⟩ := hr
  have hT := Try_any (E := E) (O := OM E) (R := R) (om_ok E) hf hL (by omega) hRA hRe E.fuel
  refine (hT wr M st p kv a (.slice none 0 0) [] 0 _ _ (Km a) h1 hp he (gv_nil _ _) ha h8 (by omega) (by omega) (by simp) (by omega) (mat_clo h3 h5)).mono ?_
  rintro r w4 ⟨rfl, M4, t4, s4⟩
  have hfst := runK_first (fuel := E.fuel) a (den R E.S (E.fuel + 1) p a []) st h8
  have hn4 : (runK E.fuel (den R E.S (E.fuel + 1) p a []) (Km a) st).1 ≠ 4 :=
    runK_late (fun a g s hs => ⟨by simp [Km], Nat.le_refl _, hs⟩) _ (E.fuel + 1) _ (den_late R E.S (E.fuel + 1) p a []) (by omega) h8
  have hon := den_onw (R := R) (S := E.S) (L := E.S.size) (fuel := E.fuel) (V := 0) rfl hf (E.fuel + 1) Fnd p a [] (Km a) 0 st (Km_okay a) (Nat.zero_le _) ha h8 (by omega) (by omega)
  obtain ⟨kr, hkr⟩ : ∃ kr, runK E.fuel (den R E.S (E.fuel + 1) p a []) (Km a) st = kr := ⟨_, rfl⟩
  rw [hkr] at hfst hn4 hon s4 ⊢
  refine ⟨kr.1, rfl, ?_⟩
  obtain ⟨k, hk⟩ : ∃ k, E.S.size + 1 - a = k + 1 := ⟨E.S.size - a, by omega⟩
  rw [hk, tryL] at h11
  have t24 := h2.trans t4
  cases hfi : first E.fuel st.ticks st.said (den R E.S (E.fuel + 1) p a []) with
  | found b g t sd T' =>
    rw [hfi] at hfst h11
    have hfst : kr = _ := hfst
    rw [hfst] at s4 ⊢
    exact .over 1 w4 M4 _ (Or.inl rfl) s4 t24 h11
  | over c t sd =>
    rw [hfi] at hfst h11
    have hfst : kr = _ := hfst
    have h11 : want = if c = true ∨ anch = true then (none, sd, t, 0) else tryL R p E.S E.fuel anch k (a + 1) t sd := h11
    rw [hfst] at s4 hon ⊢
    by_cases hc : c = true
    · rw [if_pos hc] at s4 ⊢
      rw [if_pos (Or.inl hc)] at h11
      exact .over 2 w4 M4 _ (Or.inr (Or.inl rfl)) s4 t24 (by rw [h11]; show _ = (st.out, sd, t, 0); rw [h6])
    · rw [if_neg hc] at s4 hon ⊢
      cases anch with
      | true =>
        rw [if_pos (Or.inr rfl)] at h11
        exact .over 0 w4 M4 _ (Or.inr (Or.inr ⟨rfl, rfl⟩)) s4 t24 (by rw [h11]; show _ = (st.out, sd, t, 0); rw [h6])
      | false =>
        rw [if_neg (by simp [hc])] at h11
        refine .next w4 rfl (fun fb2 w2 g2 hc2 hf2 hlt => ?_) (t4.cell h3 h5.2)
        have tg := Turn.of_grew (M := M4) g2
        refine ⟨M4, _, St.grown (om_ok E) s4 g2, t24.trans tg, by rw [hc2]; rfl, hf2, ⟨World.block_lt_of_cell? _ _ hc2, fun hm => ?_⟩, h6, h7, hon.fuel, ?_, fun _ => rfl, ?_⟩
        · obtain ⟨sv, ov, hl⟩ := s4
          have := hl.lt _ hm
          omega
        · have h12 := hon.back rfl (by show 0 < 3; omega)
          have h12 : sd.length + 300000 * (st.ticks + st.ways) + 200000 ≤ st.said.length + 0 + 300000 * (t + st.ways) := h12
          show sd.length ≤ 300000 * t
          omega
        · rw [h11, show E.S.size + 1 - (a + 1) = k by omega]
  | fuel =>
    rw [hfi] at hfst h11
    obtain ⟨f1, f2⟩ := hfst
    obtain ⟨k1, k2⟩ := kr
    have f1 : k1 = 3 := f1
    subst f1
    exact .bad w4 10 (Or.inl rfl) M4 _ s4 t24 h11 f2
  | name =>
    rw [hfi] at hfst h11
    obtain ⟨f1, f2⟩ := hfst
    obtain ⟨k1, k2⟩ := kr
    have f1 : k1 = 3 := f1
    subst f1
    exact .bad w4 7 (Or.inr rfl) M4 _ s4 t24 h11 f2
  | deep =>
    rw [hfi] at hfst
    exact absurd hfst hn4
end Go.Proofs.YtcmdhgamlhnioaaDoor
