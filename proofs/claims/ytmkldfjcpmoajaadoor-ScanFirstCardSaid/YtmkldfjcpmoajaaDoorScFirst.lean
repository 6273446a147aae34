/- ScanFirst: the walk. Conditions: what the arguments are read as; the library's table of powers of ten. -/
import Derived.Test.YtmkldfjcpmoajaaDoorScShape
namespace Go.Proofs.YtmkldfjcpmoajaaDoor
open Go.RowKit
set_option linter.unusedVariables false
section
variable {R : List Rule} {w : World} {rv ka : Value} {a : Pat} {s : ByteArray}
open Tr in
theorem first_found {fuel : Nat} : ∀ {T : Tr} {t t' : Nat} {sd sd' : List Gift} {b : Nat} {g : List Gift} {t2 : Nat} {sd2 : List Gift} {U : Tr}, first fuel t sd T = .found b g t2 sd2 U → t' ≤ t → t ≤ fuel → ∃ t3 sd3, first fuel t' sd' T = .found b g t3 sd3 U
  | .stop m, t, t', sd, sd', b, g, t2, sd2, U, h, _, _ => by cases m <;> simp [first] at h
  | .tick T, t, t', sd, sd', b, g, t2, sd2, U, h, h1, h2 => by
    rw [first] at h
    by_cases e : t = fuel
    · rw [if_pos e] at h; cases h
    · rw [if_neg e] at h
      rw [first, if_neg (by omega)]
      exact first_found h (by omega) (by omega)
  | .say x T, t, t', sd, sd', b, g, t2, sd2, U, h, h1, h2 => by
    rw [first] at h ⊢
    exact first_found h h1 h2
  | .way x y T, t, t', sd, sd', b, g, t2, sd2, U, h, h1, h2 => by
    rw [first] at h ⊢
    simp only [Obs.found.injEq] at h
    obtain ⟨rfl, rfl, _, _, rfl⟩ := h
    exact ⟨_, _, rfl⟩
open Tr in
theorem first_over {fuel : Nat} : ∀ {T : Tr} {t t' : Nat} {sd sd' : List Gift} {c : Bool} {t2 : Nat} {sd2 : List Gift}, first fuel t sd T = .over c t2 sd2 → t' ≤ t → t ≤ fuel → t2 ≤ fuel ∧ ∃ t3 sd3, first fuel t' sd' T = .over c t3 sd3
  | .stop m, t, t', sd, sd', c, t2, sd2, h, h1, h2 => by
    cases m <;> simp [first] at h ⊢
    · exact ⟨by omega, h.1⟩
    · exact ⟨by omega, h.1⟩
  | .tick T, t, t', sd, sd', c, t2, sd2, h, h1, h2 => by
    rw [first] at h
    by_cases e : t = fuel
    · rw [if_pos e] at h; cases h
    · rw [if_neg e] at h
      rw [first, if_neg (by omega)]
      exact first_over h (by omega) (by omega)
  | .say x T, t, t', sd, sd', c, t2, sd2, h, h1, h2 => by
    rw [first] at h ⊢
    exact first_over h h1 h2
  | .way x y T, t, t', sd, sd', c, t2, sd2, h, h1, h2 => by
    rw [first] at h; cases h
def FirstAt (R : List Rule) (p : Pat) (s : ByteArray) (M : Matched) (n : Nat) : Prop := ∃ t sd, t ≤ 20000 ∧ M = tryL R p s 20000 false (s.size + 1 - n) n t sd
theorem ways_one_of (h0 : askErr R a s 20000 = 0) {n : Nat} (hn : n ≤ s.size) : waysOf R a s n 1 20000 = tell 20000 1 0 (den R s 20001 a n []) := by
  unfold waysOf
  rw [if_pos h0, if_neg (by omega)]
  rfl
theorem FirstAt.step {M : Matched} {n : Nat} (h : FirstAt R a s M n) (hn : n ≤ s.size) (h0 : askErr R a s 20000 = 0) (hM : M.2.2.2 = 0) :
    (∃ b g, M.1 = some (n, b, g) ∧ waysOf R a s n 1 20000 = ([(b, g)], false, 0)) ∨ (M.1 = none ∧ waysOf R a s n 1 20000 = ([], true, 0)) ∨ (waysOf R a s n 1 20000 = ([], false, 0) ∧ FirstAt R a s M (n + 1)) := by
  obtain ⟨t, sd, ht, e⟩ := h
  rw [ways_one_of h0 hn, tell_first 0 _ 0 []]
  rw [show s.size + 1 - n = (s.size - n) + 1 by omega, tryL] at e
  cases hf : first 20000 t sd (den R s 20001 a n []) with
  | found b g t2 sd2 U =>
    rw [show (20000 + 1 : Nat) = 20001 from rfl, hf] at e
    obtain ⟨t3, sd3, h3⟩ := first_found (t' := 0) (sd' := []) hf (Nat.zero_le _) ht
    exact Or.inl ⟨b, g, by rw [e], by rw [h3]; simp [tellO, tell, more]⟩
  | over c t2 sd2 =>
    rw [show (20000 + 1 : Nat) = 20001 from rfl, hf] at e
    obtain ⟨ht2, t3, sd3, h3⟩ := first_over (t' := 0) (sd' := []) hf (Nat.zero_le _) ht
    rw [h3]
    dsimp only at e
    cases c with
    | true => rw [if_pos (Or.inl rfl)] at e; exact Or.inr (Or.inl ⟨by rw [e], rfl⟩)
    | false => rw [if_neg (by simp)] at e; exact Or.inr (Or.inr ⟨rfl, t2, sd2, ht2, by rw [e, show s.size + 1 - (n + 1) = s.size - n by omega]⟩)
  | fuel => rw [show (20000 + 1 : Nat) = 20001 from rfl, hf] at e; rw [e] at hM; cases hM
  | name => rw [show (20000 + 1 : Nat) = 20001 from rfl, hf] at e; rw [e] at hM; cases hM
  | deep => rw [show (20000 + 1 : Nat) = 20001 from rfl, hf] at e; rw [e] at hM; cases hM
theorem FirstAt.last {M : Matched} (h : FirstAt R a s M (s.size + 1)) : M.1 = none := by
  obtain ⟨t, sd, ht, e⟩ := h
  rw [Nat.sub_self, tryL] at e
  rw [e]
theorem first_start (h0 : askErr R a s 20000 = 0) : FirstAt R a s (matchOf R a s false 20000) 0 := ⟨0, [], Nat.zero_le _, by unfold matchOf; rw [if_pos h0]; rfl⟩
theorem match_ask (h : (matchOf R a s false 20000).2.2.2 = 0) : askErr R a s 20000 = 0 := by
  unfold matchOf at h
  by_cases h0 : askErr R a s 20000 = 0
  · exact h0
  · rw [if_neg h0] at h; exact h
def frm (M : Matched) : Int := match M.1 with | some (a, _, _) => (a : Int) | none => 0
def til (M : Matched) : Int := match M.1 with | some (_, b, _) => (b : Int) | none => 0
def giv (M : Matched) : List Gift := match M.1 with | some (_, _, g) => g | none => []
set_option maxRecDepth 100000 in
set_option maxHeartbeats 4000000 in
theorem ScanFirst_walk (hR : RulesAt w rv R) (ha : PatV w ka a) (hs : s.size ≤ maxLen) (hT : TabP w) :
    Calls Tryd.prog 5 #[rv, .agg (a.cells ka), .string s] w fun e w' => e = .returned (.bool true) ∧ Grew w w' := by
  obtain ⟨ra, rc, rfl, _⟩ := hR.len
  obtain ⟨kb, kn, kc, rfl⟩ := kids_form ha.kids
  have HAl : Hid (∀ w1, Grew w w1 → Calls Tryd.prog 23 #[] w1 fun e w' => e = .returned (.bool true) ∧ Grew w1 w') := fun w1 g => alive_any w1 (hT.kept g)
  obtain ⟨M, hM⟩ : ∃ M, matchOf R a s false 20000 = M := ⟨_, rfl⟩
  have HMA : Hid (∀ w1, Grew w w1 → Calls Tryd.prog 15 #[.slice ra R.length rc, .agg #[.int .i64 a.kind, .string a.text, .int .i64 a.n, .string a.name, .slice kb kn kc], .string s, .bool false, .int .i64 20000] w1 fun e w' => ∃ ga gc sa sn sc, e = .returned (.tuple #[.agg #[.bool M.1.isSome, .int .i64 (frm M), .int .i64 (til M), .slice ga (giv M).length gc, .slice sa sn sc, .int .i64 M.2.2.1], .int .i64 M.2.2.2]) ∧ Grew w1 w' ∧ GiftsV w' (.slice ga (giv M).length gc) (giv M)) :=
    fun w1 g => (Match_any (p := a) (kv := .slice kb kn kc) false 20000 (hR.kept g) (ha.kept g) hs (by omega) (hT.kept g)).mono fun e w' ⟨hg, gv, sv, he, h1, h2⟩ => by
      rw [hM] at he h1 h2
      have h1' : w'.ownsRow w1.heap.size 74 2 gv (giv M).length (saidCells (giv M)) := h1
      obtain ⟨ga, gc, rfl⟩ := ownsRow_form0 h1'
      obtain ⟨sa, sc, rfl⟩ := ownsRow_form0 h2
      exact ⟨ga, gc, sa, _, sc, he, hg, .of_own h1'⟩
  have HWy : Hid (∀ (n : Nat) w1, Grew w w1 → Calls Tryd.prog 20 #[.slice ra R.length rc, .agg #[.int .i64 a.kind, .string a.text, .int .i64 a.n, .string a.name, .slice kb kn kc], .string s, .int .i64 n, .int .i64 1, .int .i64 20000] w1 fun e w' => Grew w1 w' ∧ ∃ b c, e = .returned (.tuple #[.slice b (waysOf R a s n 1 20000).1.length c, .bool (waysOf R a s n 1 20000).2.1, .int .i64 (waysOf R a s n 1 20000).2.2]) ∧ WaysV w' (.slice b (waysOf R a s n 1 20000).1.length c) (waysOf R a s n 1 20000).1) :=
    fun n w1 g => (Ways_any (p := a) (kv := .slice kb kn kc) n 1 20000 (hR.kept g) (ha.kept g) hs (by omega) (hT.kept g)).mono fun e w' ⟨h1, vv, h2, h3⟩ => by
      obtain ⟨gs, k1, k2, k3⟩ := h3
      obtain ⟨b, c', rfl⟩ := ownsRow_form0 k2
      exact ⟨h1, b, c', h2, .of_at ⟨gs, k1, k2, k3⟩⟩
  have HS0 : Hid (M.2.2.2 = 0 → FirstAt R a s M 0 ∧ askErr R a s 20000 = 0) := fun h => by
    rw [← hM] at h
    have := match_ask h
    exact ⟨hM ▸ first_start this, this⟩
  have hsz : s.size ≤ 9223372036854775807 := by unfold maxLen at hs; omega
  clear hR ha hs hT hM
  unfold Pat.cells
  by_cases he : M.2.2.2 = 0
  · have HS1 := hidd (HS0.out he)
    have HE0 := hidd he
    have e1 : (M.2.2.2 != 0) = false := by simp [he]
    clear he HS0
    by_cases hlong : 200 < (s.size : Int)
    · go_enter Tryd.func5, Tryd.ntmps5
      go_wp2_with fail
      refine (HAl.out _ ((Grew.refl w).alloc _)).mono ?_; rintro e w1 ⟨rfl, g1⟩
      have HG := hidd (((Grew.refl w).alloc _).trans g1)
      obtain ⟨k0, k1, k2, k3, k4⟩ := box_five (w := w1) (b := w.heap.size) (by rw [g1.block _ (by simp)]; exact heap_alloc_new w _)
      clear g1 HAl
      go_wp2_with fail
      refine (HMA.out _ HG.out).mono ?_; rintro e w2 ⟨ga, gc, sa, sn, sc, rfl, g2, hgv⟩
      have HG2 := hidd (HG.out.trans g2)
      clear g2 hgv HMA k0 k1 k2 k3 k4
      go_wp2_with fail
      go_ret
      exact ⟨rfl, HG2.out.alloc _⟩
    · have hle : s.size ≤ 200 := by omega
      go_enter Tryd.func5, Tryd.ntmps5
      go_wp2_with fail
      refine (HAl.out _ ((Grew.refl w).alloc _)).mono ?_; rintro e w1 ⟨rfl, g1⟩
      have HG := hidd g1
      obtain ⟨k0, k1, k2, k3, k4⟩ := box_five (w := w1) (b := w.heap.size) (by rw [g1.block _ (by simp)]; exact heap_alloc_new w _)
      clear g1 HAl
      go_wp2_with fail
      refine (HMA.out _ (((Grew.refl w).alloc _).trans HG.out)).mono ?_; rintro e w2 ⟨ga, gc, sa, sn, sc, rfl, g2, hgv⟩
      have HG2 := hidd (And.intro (HG.out.trans g2) hgv)
      clear g2 hgv HMA k0 k1 k2 k3 k4
      go_wp2_with fail
      clear hlong e1
      obtain ⟨wX, hwX⟩ : ∃ wX, w2.alloc (.cells #[.bool M.1.isSome, .int .i64 (frm M), .int .i64 (til M), .slice ga (giv M).length gc, .slice sa sn sc, .int .i64 M.2.2.1] 28) = wX := ⟨_, rfl⟩
      have HX : Hid (wX.heap[w2.heap.size]? = some (.cells #[.bool M.1.isSome, .int .i64 (frm M), .int .i64 (til M), .slice ga (giv M).length gc, .slice sa sn sc, .int .i64 M.2.2.1] 28 (0, 0)) ∧ Grew w2 wX) := ⟨by rw [← hwX]; exact heap_alloc_new w2 _, hwX ▸ (Grew.refl w2).alloc _⟩
      rw [hwX]
      clear hwX
      go_loopg [9, 10, 11, 12] (s.size + 2) (fun k s9 _ _ _ wr => ∃ n : Nat, s9 = .int .i64 n ∧ Hid (Grew wX wr ∧ FirstAt R a s M n) ∧ s.size + 2 ≤ k + n ∧ n ≤ s.size + 1)
      case atStart => exact ⟨0, rfl, ⟨Grew.refl _, HS1.out.1⟩, by omega, by omega⟩
      case round =>
        obtain ⟨n, rfl, HI, hk, hn⟩ := hrel
        have HGA : Hid (Grew (w.alloc (.cells #[.int .i64 a.kind, .string a.text, .int .i64 a.n, .string a.name, .slice kb kn kc] 25)) wr) := HG2.out.1.trans (HX.out.2.trans HI.out.1)
        have HBk : Hid (wr.heap[w2.heap.size]? = some (.cells #[.bool M.1.isSome, .int .i64 (frm M), .int .i64 (til M), .slice ga (giv M).length gc, .slice sa sn sc, .int .i64 M.2.2.1] 28 (0, 0))) := by
          show wr.heap[w2.heap.size]? = _
          rw [HI.out.1.block _ (lt_of_block HX.out.1)]; exact HX.out.1
        by_cases hlt : n ≤ s.size
        · obtain ⟨k0, k1, k2, k3, k4⟩ := box_five (w := wr) (b := w.heap.size) (by rw [HGA.out.block _ (by simp)]; exact heap_alloc_new w _)
          have hstep := HI.out.2.step hlt HS1.out.2 HE0.out
          have HIr := hidd HI.out.1
          clear HI
          go_wp2_with fail
          refine (HWy.out n _ (((Grew.refl w).alloc _).trans HGA.out)).mono ?_; rintro e w3 ⟨g3, b, c, rfl, hv⟩
          clear k0 k1 k2 k3 k4
          rcases hstep with ⟨x, g, hm1, hw⟩ | ⟨hm1, hw⟩ | ⟨hw, hnx⟩
          · rw [hw] at hv ⊢
            dsimp only at hv ⊢
            have hv : WaysV w3 (.slice b 1 c) [(x, g)] := hv
            have hB3 := HBk.out
            rw [show frm M = n from by unfold frm; rw [hm1], show til M = x from by unfold til; rw [hm1], hm1] at hB3
            have hgg : giv M = g := by unfold giv; rw [hm1]
            rw [hgg] at hB3
            have hgm := HG2.out.2
            rw [hgg] at hgm
            have hB3 : w3.heap[w2.heap.size]? = some (.cells #[.bool true, .int .i64 n, .int .i64 x, .slice ga g.length gc, .slice sa sn sc, .int .i64 M.2.2.1] 28 (0, 0)) := by rw [g3.block _ (lt_of_block hB3)]; exact hB3
            have c0 : w3.cell? ⟨w2.heap.size, 0, none⟩ = some (.bool true) := by simp [World.cell?, hB3]
            have c1 : w3.cell? ⟨w2.heap.size, 1, none⟩ = some (.int .i64 n) := by simp [World.cell?, hB3]
            have c2 : w3.cell? ⟨w2.heap.size, 2, none⟩ = some (.int .i64 x) := by simp [World.cell?, hB3]
            have c3 : w3.cell? ⟨w2.heap.size, 3, none⟩ = some (.slice ga g.length gc) := by simp [World.cell?, hB3]
            obtain ⟨bb, ob, rfl, hc1, a0, gv, a1, hgv⟩ : ∃ b1 o : Nat, b = some ⟨b1, o, none⟩ ∧ 1 ≤ c ∧ w3.cell? ⟨b1, o, none⟩ = some (.int .i64 x) ∧ ∃ gv, w3.cell? ⟨b1, o + 1, none⟩ = some gv ∧ GiftsV w3 gv g := by
              rcases hv with ⟨_, _, e, e2⟩ | ⟨b, o, c, e, _, hc, _, h⟩
              · cases e2
              · cases e
                obtain ⟨h1, gv, h2, h3⟩ := h 0 (by simp)
                exact ⟨b, o, rfl, hc, h1, gv, h2, h3⟩
            have hgm3 : GiftsV w3 (.slice ga g.length gc) g := hgm.kept (HX.out.2.trans (HIr.out.trans g3))
            have HC : Hid (∀ n, Calls Tryd.prog 17 #[.slice ga g.length gc, gv] (w3.drewN n) fun e w' => e = .returned (.bool true) ∧ ∃ m, w' = (w3.drewN n).drewN m) :=
              fun n => (SameGifts_any (hgm3.kept ((Grew.refl w3).drewN n)) (hgv.kept ((Grew.refl w3).drewN n))).mono fun e w' h => ⟨by rw [h.1]; simp, h.2⟩
            have HGF := hidd (((Grew.refl w).alloc _).trans (HGA.out.trans g3))
            clear hB3 hgm3 hgm hgv hgg hm1 hw hv g3 HIr
            go_wp2_with fail
            go_quiet ((go_at_call 17; exact Calls.quiet_of (HC.out _)))
            go_wp2_with fail
            go_ret
            exact ⟨rfl, HGF.out.drewN _⟩
          · rw [hw] at hv ⊢
            dsimp only at hv ⊢
            have hB3 := HBk.out
            rw [show frm M = 0 from by unfold frm; rw [hm1], show til M = 0 from by unfold til; rw [hm1], hm1, show giv M = [] from by unfold giv; rw [hm1]] at hB3
            have hB3 : w3.heap[w2.heap.size]? = some (.cells #[.bool false, .int .i64 0, .int .i64 0, .slice ga 0 gc, .slice sa sn sc, .int .i64 M.2.2.1] 28 (0, 0)) := by rw [g3.block _ (lt_of_block hB3)]; exact hB3
            have c0 : w3.cell? ⟨w2.heap.size, 0, none⟩ = some (.bool false) := by simp [World.cell?, hB3]
            have c1 : w3.cell? ⟨w2.heap.size, 1, none⟩ = some (.int .i64 0) := by simp [World.cell?, hB3]
            have c2 : w3.cell? ⟨w2.heap.size, 2, none⟩ = some (.int .i64 0) := by simp [World.cell?, hB3]
            have c3 : w3.cell? ⟨w2.heap.size, 3, none⟩ = some (.slice ga 0 gc) := by simp [World.cell?, hB3]
            have HGF := hidd (((Grew.refl w).alloc _).trans (HGA.out.trans g3))
            clear hB3 hm1 hw hv g3 HIr
            go_wp2_with fail
            go_ret
            exact ⟨rfl, HGF.out⟩
          · rw [hw] at hv ⊢
            dsimp only at hv ⊢
            have HN : Hid (Grew wX w3 ∧ FirstAt R a s M (n + 1)) := ⟨HIr.out.trans g3, hnx⟩
            clear hw hv g3 HIr hnx
            go_wp2_with fail
            go_roundg (s.size + 2 - (n + 1))
            case rel => exact ⟨n + 1, by go_num, HN.out, by omega, by omega⟩
            case measure => omega
        · have hm1 : M.1 = none := by
            have := HI.out.2
            rw [show n = s.size + 1 by omega] at this
            exact this.last
          have hB3 := HBk.out
          rw [show frm M = 0 from by unfold frm; rw [hm1], show til M = 0 from by unfold til; rw [hm1], hm1, show giv M = [] from by unfold giv; rw [hm1]] at hB3
          have c0 : wr.cell? ⟨w2.heap.size, 0, none⟩ = some (.bool false) := by simp [World.cell?, hB3]
          have c1 : wr.cell? ⟨w2.heap.size, 1, none⟩ = some (.int .i64 0) := by simp [World.cell?, hB3]
          have c2 : wr.cell? ⟨w2.heap.size, 2, none⟩ = some (.int .i64 0) := by simp [World.cell?, hB3]
          have c3 : wr.cell? ⟨w2.heap.size, 3, none⟩ = some (.slice ga 0 gc) := by simp [World.cell?, hB3]
          have HGF := hidd (((Grew.refl w).alloc _).trans HGA.out)
          clear hB3 hm1 HI
          go_wp2_with fail
          go_ret
          exact ⟨rfl, HGF.out⟩
  · have e1 : (M.2.2.2 != 0) = true := by simp [he]
    clear he HS0
    go_enter Tryd.func5, Tryd.ntmps5
    go_wp2_with fail
    refine (HAl.out _ ((Grew.refl w).alloc _)).mono ?_; rintro e w1 ⟨rfl, g1⟩
    have HG := hidd (((Grew.refl w).alloc _).trans g1)
    obtain ⟨k0, k1, k2, k3, k4⟩ := box_five (w := w1) (b := w.heap.size) (by rw [g1.block _ (by simp)]; exact heap_alloc_new w _)
    clear g1 HAl
    go_wp2_with fail
    refine (HMA.out _ HG.out).mono ?_; rintro e w2 ⟨ga, gc, sa, sn, sc, rfl, g2, hgv⟩
    have HG2 := hidd (HG.out.trans g2)
    clear g2 hgv HMA k0 k1 k2 k3 k4
    go_wp2_with fail
    go_ret
    exact ⟨rfl, HG2.out.alloc _⟩
end
end Go.Proofs.YtmkldfjcpmoajaaDoor
