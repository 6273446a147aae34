/- TuneLength: the walk. Conditions: what the arguments are read as; the library's tables. -/
import Derived.Test.YtmcfoefhenmjeaaDoorTnTold
namespace Go.Proofs.YtmcfoefhenmjeaaDoor
open Go.RowKit
set_option linter.unusedVariables false
section
variable {R : List Rule} {w : World} {rv ka : Value} {p : Pat} {s : ByteArray}
set_option maxRecDepth 100000 in
set_option maxHeartbeats 4000000 in
theorem TuneLength_walk (at_ : Int) (hR : RulesAt w rv R) (hp : PatV w ka p) (hs : s.size ≤ maxLen) (hat : -9223372036854775808 ≤ at_ ∧ at_ ≤ 9223372036854775807) (hT : Tabs w) :
    Calls Tryd.prog 7 #[rv, .agg (p.cells ka), .string s, .int .i64 at_] w fun e w' => e = .returned (.bool true) ∧ Grew w w' := by
  obtain ⟨ra, rc, rfl, _⟩ := hR.len
  obtain ⟨kb, kn, kc, rfl⟩ := form_of hp.kids
  have hTk : ∀ w1, Grew w w1 → Tabs w1 := fun w1 g => ⟨hT.1.kept g, hT.2.kept g⟩
  have HAl : Hid (∀ w1, Grew w w1 → Calls Tryd.prog 9 #[] w1 fun e w' => e = .returned (.bool true) ∧ Grew w1 w') := fun w1 g => alive_any w1 (hTk w1 g).2
  have HB0 : Hid ((w.alloc (.cells #[.int .i64 p.kind, .string p.text, .int .i64 p.n, .string p.name, .slice kb kn kc] 24)).heap[w.heap.size]? = some (.cells #[.int .i64 p.kind, .string p.text, .int .i64 p.n, .string p.name, .slice kb kn kc] 24 (0, 0))) := heap_alloc_new w _
  have HLe : Hid (∀ w1, Grew w w1 → Calls Tryd.prog 15 #[.agg #[.int .i64 p.kind, .string p.text, .int .i64 p.n, .string p.name, .slice kb kn kc]] w1 fun e w' => e = .returned (.tuple #[.int .i64 (lengthOf p).1, .int .i64 (lengthOf p).2.1, .int .i64 (lengthOf p).2.2]) ∧ Grew w1 w') := fun w1 g => Length_any p _ w1 (hp.kept g)
  have HW : Hid (∀ w1, Grew w w1 → Calls Tryd.prog 21 #[.slice ra R.length rc, .agg #[.int .i64 p.kind, .string p.text, .int .i64 p.n, .string p.name, .slice kb kn kc], .string s, .int .i64 at_, .int .i64 4096, .int .i64 20000] w1 fun e w' => ∃ va vc, e = .returned (.tuple #[.slice va (waysOf R p s at_ 4096 20000).1.length vc, .bool (waysOf R p s at_ 4096 20000).2.1, .int .i64 (waysOf R p s at_ 4096 20000).2.2]) ∧ Grew w1 w' ∧ WaysV w' (.slice va (waysOf R p s at_ 4096 20000).1.length vc) (waysOf R p s at_ 4096 20000).1) := fun w1 g => ways_told at_ (hR.kept g) (hp.kept g) hs (hTk w1 g)
  have HE := length_fits (R := R) (p := p) (s := s) (at_ := at_)
  obtain ⟨⟨la, ca, ea⟩, hA⟩ : ∃ A, waysOf R p s at_ 4096 20000 = A := ⟨_, rfl⟩
  rw [hA] at HW HE
  obtain ⟨⟨le, mo, el⟩, hL⟩ : ∃ A, lengthOf p = A := ⟨_, rfl⟩
  rw [hL] at HLe HE
  clear hR hp hT hTk hA hL
  dsimp only at HW HLe HE
  unfold maxLen at hs
  unfold Pat.cells
  by_cases hz : ea = 0
  · subst hz
    rcases HE rfl with h6 | h6
    · obtain ⟨rfl, hl0⟩ := h6
      have kl : ((la.length : Int) == 0) = true := by rw [hl0]; rfl
      clear hl0
      go_enter Tryd.func7, Tryd.ntmps7
      go_wp2_with fail
      refine (HAl.out _ ((Grew.refl w).alloc _)).mono ?_; rintro e w1 ⟨rfl, g1⟩
      have HG := hidd (((Grew.refl w).alloc _).trans g1)
      have HB1 := hidd (heap_kept g1 HB0.out)
      obtain ⟨⟨k0, k1, k2, k3, k4⟩, kf⟩ := five_cells HB1.out
      clear g1 HAl HB0
      go_wp2_with fail
      refine (HLe.out _ HG.out).mono ?_; rintro e w2 ⟨rfl, g2⟩
      have HG2 := hidd (HG.out.trans g2)
      have HB2 := hidd (heap_kept g2 HB1.out)
      clear g2 HLe HB1 HG k0 k1 k2 k3 k4 kf
      obtain ⟨⟨k0, k1, k2, k3, k4⟩, kf⟩ := five_cells HB2.out
      go_wp2_with fail
      refine (HW.out _ HG2.out).mono ?_; rintro e w3 ⟨va, vc, rfl, g3, hv⟩
      have HG3 := hidd (HG2.out.trans g3)
      have HV := hidd hv
      clear g3 hv HW HB2 HG2 k0 k1 k2 k3 k4 kf
      go_wp2_with fail
      go_ret
      exact ⟨rfl, HG3.out⟩
    · obtain ⟨rfl, ha0, has, hall⟩ := h6
      obtain ⟨a, rfl⟩ : ∃ a : Nat, at_ = a := ⟨at_.toNat, by omega⟩
      have HALL : Hid (∀ x ∈ la, (a : Int) + le ≤ x.1 ∧ (0 ≤ mo → (x.1 : Int) ≤ a + mo) ∧ x.1 ≤ s.size) := hall
      clear hall hat
      go_enter Tryd.func7, Tryd.ntmps7
      go_wp2_with fail
      refine (HAl.out _ ((Grew.refl w).alloc _)).mono ?_; rintro e w1 ⟨rfl, g1⟩
      have HG := hidd (((Grew.refl w).alloc _).trans g1)
      have HB1 := hidd (heap_kept g1 HB0.out)
      obtain ⟨⟨k0, k1, k2, k3, k4⟩, kf⟩ := five_cells HB1.out
      clear g1 HAl HB0
      go_wp2_with fail
      refine (HLe.out _ HG.out).mono ?_; rintro e w2 ⟨rfl, g2⟩
      have HG2 := hidd (HG.out.trans g2)
      have HB2 := hidd (heap_kept g2 HB1.out)
      clear g2 HLe HB1 HG k0 k1 k2 k3 k4 kf
      obtain ⟨⟨k0, k1, k2, k3, k4⟩, kf⟩ := five_cells HB2.out
      go_wp2_with fail
      refine (HW.out _ HG2.out).mono ?_; rintro e w3 ⟨va, vc, rfl, g3, hv⟩
      have HG3 := hidd (HG2.out.trans g3)
      have HV := hidd hv
      clear g3 hv HW HB2 HG2 k0 k1 k2 k3 k4 kf
      go_wp2_with fail
      obtain ⟨hlm, hva⟩ : la.length ≤ 9223372036854775807 ∧ True := ⟨by obtain ⟨_, _, _, _, h⟩ := HV.out.len; exact h, trivial⟩
      go_loopw [16, 47] (fun _ u wr => ∃ k : Nat, k ≤ la.length ∧ u = .int .i64 k ∧ Hid (Grew w3 wr)) (fun _ u _ => la.length - (intOf u).toNat)
      case atStart => exact ⟨0, Nat.zero_le _, rfl, Grew.refl _⟩
      case round =>
        obtain ⟨k, hk, rfl, HGr⟩ := hrel
        by_cases hlt : k < la.length
        · obtain ⟨b, o', rfl, hc⟩ : ∃ b o : Nat, va = some ⟨b, o, none⟩ ∧ ∀ i, i < la.length → wr.cell? ⟨b, o + i * 2, none⟩ = some (.int .i64 (la.getD i way0).1) ∧ ∃ gv, wr.cell? ⟨b, o + i * 2 + 1, none⟩ = some gv ∧ GiftsV wr gv (la.getD i way0).2 := by
            rcases HV.out.kept HGr.out with ⟨_, _, e, e2⟩ | ⟨b, o, c, e, _, _, _, h⟩
            · rw [e2] at hlt; simp at hlt
            · cases e; exact ⟨b, o, rfl, h⟩
          obtain ⟨c0, gv, c1, hgv⟩ := hc k hlt
          obtain ⟨gp, gc, rfl, _⟩ := hgv.len
          have hmem : la.getD k way0 ∈ la := by rw [List.getD_eq_getElem?_getD, List.getElem?_eq_getElem hlt]; exact List.getElem_mem hlt
          obtain ⟨q1, q2, q3⟩ := HALL.out _ hmem
          obtain ⟨⟨x1, x2⟩, hx⟩ : ∃ x, la.getD k way0 = x := ⟨_, rfl⟩
          rw [hx] at c0 c1 q1 q2 q3
          dsimp only at c0 c1 q1 q2 q3
          clear hx hmem hgv hc
          have fw : wrap64 ((x1 : Int) - (a : Int)) = (x1 : Int) - a := by unfold wrap64; omega
          have f1 : decide ((x1 : Int) - (a : Int) < le) = false := decide_eq_false (by omega)
          by_cases hm : 0 ≤ mo
          · have f2 : decide (0 ≤ mo) = true := decide_eq_true hm
            have f3 : decide (mo < (x1 : Int) - (a : Int)) = false := decide_eq_false (by have := q2 hm; omega)
            clear q1 q2 hm
            go_wp2_with fail
            go_roundw
            case rel => exact ⟨k + 1, by omega, by go_num, HGr.out.alloc _⟩
            case measure => simp [intOf]; omega
          · have f2 : decide (0 ≤ mo) = false := decide_eq_false hm
            clear q1 q2 hm
            go_wp2_with fail
            go_roundw
            case rel => exact ⟨k + 1, by omega, by go_num, HGr.out.alloc _⟩
            case measure => simp [intOf]; omega
        · go_wp2_with fail
          go_ret
          exact ⟨rfl, HG3.out.trans HGr.out⟩
  · have kz : (ea == 0) = false := by rw [beq_eq_false_iff_ne]; exact hz
    clear hz HE
    go_enter Tryd.func7, Tryd.ntmps7
    go_wp2_with fail
    refine (HAl.out _ ((Grew.refl w).alloc _)).mono ?_; rintro e w1 ⟨rfl, g1⟩
    have HG := hidd (((Grew.refl w).alloc _).trans g1)
    have HB1 := hidd (heap_kept g1 HB0.out)
    obtain ⟨⟨k0, k1, k2, k3, k4⟩, kf⟩ := five_cells HB1.out
    clear g1 HAl HB0
    go_wp2_with fail
    refine (HLe.out _ HG.out).mono ?_; rintro e w2 ⟨rfl, g2⟩
    have HG2 := hidd (HG.out.trans g2)
    have HB2 := hidd (heap_kept g2 HB1.out)
    clear g2 HLe HB1 HG k0 k1 k2 k3 k4 kf
    obtain ⟨⟨k0, k1, k2, k3, k4⟩, kf⟩ := five_cells HB2.out
    go_wp2_with fail
    refine (HW.out _ HG2.out).mono ?_; rintro e w3 ⟨va, vc, rfl, g3, hv⟩
    have HG3 := hidd (HG2.out.trans g3)
    have HV := hidd hv
    clear g3 hv HW HB2 HG2 k0 k1 k2 k3 k4 kf
    go_wp2_with fail
    go_ret
    exact ⟨rfl, HG3.out⟩
end
end Go.Proofs.YtmcfoefhenmjeaaDoor
