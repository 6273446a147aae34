/- TuneFirst: the walk. Conditions: what the arguments are read as; the library's tables. -/
import Derived.Test.YtmcfoefhenmjeaaDoorTnToldF
import Derived.Test.YtmcfoefhenmjeaaDoorTnFstC
namespace Go.Proofs.YtmcfoefhenmjeaaDoor
open Go.RowKit
set_option linter.unusedVariables false
section
variable {R : List Rule} {w : World} {rv ka : Value} {p : Pat} {s : ByteArray}
theorem first_begs {at_ : Int} (h : (waysOf R p s at_ 4096 20000).2.2 = 0) : patErr p = 0 ∧ 0 ≤ at_ ∧ at_ ≤ s.size ∧ ∀ x ∈ (waysOf R p s at_ 4096 20000).1, at_ ≤ x.1 ∧ x.1 ≤ s.size ∧ ((x.1 : Int) = at_ → (firstP p).2 = true) ∧ (at_ < x.1 → ∃ c, s.data.toList[at_.toNat]? = some c ∧ (firstP p).1 c.toNat = true) := by
  obtain ⟨h1, h2, h3, h4⟩ := ways_allw (P := fun e => Beg s (firstP p) at_.toNat e ∧ (at_.toNat ≤ e ∧ e ≤ s.size)) h (fun he n hn hns => by
    subst hn
    exact allw_and (den_beg _ p he n [] hns) (den_places _ p n [] hns))
  refine ⟨h3, h1, h2, fun x hx => ?_⟩
  obtain ⟨⟨k1, k2⟩, k3, k4⟩ := h4 x hx
  exact ⟨by omega, k4, fun e => k1 (by omega), fun e => k2 (by omega)⟩
theorem word_cell {w : World} {b q : Nat} {S : Nat → Bool} (h : w.heap[b]? = some (.cells #[.int .u64 (q4 S 0), .int .u64 (q4 S 1), .int .u64 (q4 S 2), .int .u64 (q4 S 3)] 36 (0, 0))) (hq : q < 4) : w.cell? ⟨b, q, none⟩ = some (.int .u64 (word S (64 * q) 64 : Nat)) := by
  obtain ⟨⟨z0, z1, z2, z3⟩, _⟩ := cells_fst h
  match q, hq with
  | 0, _ => exact z0
  | 1, _ => exact z1
  | 2, _ => exact z2
  | 3, _ => exact z3
theorem byte_idx {t : ByteArray} {a : Nat} {c : UInt8} (h : t.data.toList[a]? = some c) : t[a]? = some c := by
  obtain ⟨h1, h2⟩ := List.getElem?_eq_some_iff.1 h
  have ha : a < t.size := h1
  rw [show t[a]? = some t[a] by simp [ha], ← h2]
  rfl
theorem bit_not {f : Nat → Bool} {b q r : Nat} (hq : q = b / 64) (hr : r = b % 64) (h : f b = true) : (bits .and .u64 ((word f (64 * q) 64 : Nat) / 2 ^ r : Int) 1 == 0) = false := by
  have hrl : r < 64 := by omega
  have := and_one (word f (64 * q) 64) r (word_lt64 f _)
  rw [has_word f (64 * q) r hrl, show 64 * q + r = b by omega, h] at this
  rw [beq_eq_false_iff_ne]
  intro e
  have e2 : (bits .and .u64 ((word f (64 * q) 64 : Nat) / 2 ^ r : Int) 1 == 1) = true := by rw [← this]; simp
  rw [e] at e2
  exact absurd e2 (by decide)
set_option maxRecDepth 100000 in
set_option maxHeartbeats 4000000 in
theorem TuneFirst_walk (at_ : Int) (hR : RulesAt w rv R) (hp : PatV w ka p) (hs : s.size ≤ maxLen) (hat : -9223372036854775808 ≤ at_ ∧ at_ ≤ 9223372036854775807) (hT : Tabs w) :
    Calls Tryd.prog 8 #[rv, .agg (p.cells ka), .string s, .int .i64 at_] w fun e w' => e = .returned (.bool true) ∧ Grew w w' := by
  obtain ⟨ra, rc, rfl, _⟩ := hR.len
  obtain ⟨kb, kn, kc, rfl⟩ := form_of hp.kids
  have hTk : ∀ w1, Grew w w1 → Tabs w1 := fun w1 g => ⟨hT.1.kept g, hT.2.kept g⟩
  have HAl : Hid (∀ w1, Grew w w1 → Calls Tryd.prog 9 #[] w1 fun e w' => e = .returned (.bool true) ∧ Grew w1 w') := fun w1 g => alive_any w1 (hTk w1 g).2
  have HB0 : Hid ((w.alloc (.cells #[.int .i64 p.kind, .string p.text, .int .i64 p.n, .string p.name, .slice kb kn kc] 24)).heap[w.heap.size]? = some (.cells #[.int .i64 p.kind, .string p.text, .int .i64 p.n, .string p.name, .slice kb kn kc] 24 (0, 0))) := heap_alloc_new w _
  have HFi : Hid (∀ w1, Grew w w1 → Calls Tryd.prog 17 #[.agg #[.int .i64 p.kind, .string p.text, .int .i64 p.n, .string p.name, .slice kb kn kc]] w1 (FirstEnd (firstOf p) w1)) := fun w1 g => First_any p _ w1 (hp.kept g)
  have HW : Hid (∀ w1, Grew w w1 → Calls Tryd.prog 21 #[.slice ra R.length rc, .agg #[.int .i64 p.kind, .string p.text, .int .i64 p.n, .string p.name, .slice kb kn kc], .string s, .int .i64 at_, .int .i64 4096, .int .i64 20000] w1 fun e w' => ∃ va vc, e = .returned (.tuple #[.slice va (waysOf R p s at_ 4096 20000).1.length vc, .bool (waysOf R p s at_ 4096 20000).2.1, .int .i64 (waysOf R p s at_ 4096 20000).2.2]) ∧ Grew w1 w' ∧ WaysV w' (.slice va (waysOf R p s at_ 4096 20000).1.length vc) (waysOf R p s at_ 4096 20000).1) := fun w1 g => ways_told at_ (hR.kept g) (hp.kept g) hs (hTk w1 g)
  have HE := first_begs (R := R) (p := p) (s := s) (at_ := at_)
  have HL0 : patErr p = 0 → firstOf p = (firstP p, 0) := fun h => if_pos h
  obtain ⟨⟨la, ca, ea⟩, hA⟩ : ∃ A, waysOf R p s at_ 4096 20000 = A := ⟨_, rfl⟩
  rw [hA] at HW HE
  obtain ⟨⟨⟨S, nl⟩, el⟩, hL⟩ : ∃ A, firstOf p = A := ⟨_, rfl⟩
  rw [hL] at HFi
  unfold FirstEnd at HFi
  clear hR hp hT hTk hA
  dsimp only at HW HFi HE
  unfold maxLen at hs
  unfold Pat.cells
  by_cases hz : ea = 0
  · subst hz
    obtain ⟨hp0, ha0, has, hall⟩ := HE rfl
    have hLL := HL0 hp0
    rw [hL] at hLL
    obtain ⟨a, rfl⟩ : ∃ a : Nat, at_ = a := ⟨at_.toNat, by omega⟩
    obtain ⟨⟨S', nl'⟩, hF⟩ : ∃ x, firstP p = x := ⟨_, rfl⟩
    rw [hF] at hLL hall
    cases hLL
    have HALL : Hid (∀ x ∈ la, (a : Int) ≤ x.1 ∧ x.1 ≤ s.size ∧ ((x.1 : Int) = a → nl = true) ∧ ((a : Int) < x.1 → ∃ c, s.data.toList[a]? = some c ∧ S c.toNat = true)) := hall
    clear hall hat hp0 HL0 HE hF hL
    go_enter Tryd.func8, Tryd.ntmps8
    go_wp2_with fail
    refine (HAl.out _ ((Grew.refl w).alloc _)).mono ?_; rintro e w1 ⟨rfl, g1⟩
    have HG := hidd (((Grew.refl w).alloc _).trans g1)
    have HB1 := hidd (heap_kept g1 HB0.out)
    obtain ⟨⟨k0, k1, k2, k3, k4⟩, kf⟩ := five_cells HB1.out
    clear g1 HAl HB0
    go_wp2_with fail
    refine (HFi.out _ HG.out).mono ?_; rintro e w2 ⟨rfl, g2⟩
    have HG2 := hidd ((HG.out.trans g2).alloc (.cells #[.int .u64 (q4 S 0), .int .u64 (q4 S 1), .int .u64 (q4 S 2), .int .u64 (q4 S 3)] 36))
    have HB2 := hidd (heap_kept g2 HB1.out)
    have HSB := hidd (heap_alloc_new w2 (.cells #[.int .u64 (q4 S 0), .int .u64 (q4 S 1), .int .u64 (q4 S 2), .int .u64 (q4 S 3)] 36))
    clear g2 HFi HB1 HG k0 k1 k2 k3 k4 kf
    have j0 : ∀ o, (w2.alloc o).cell? ⟨w.heap.size, 0, none⟩ = some (.int .i64 p.kind) := fun o => (five_cells (heap_more HB2.out)).1.1
    have j1 : ∀ o, (w2.alloc o).cell? ⟨w.heap.size, 1, none⟩ = some (.string p.text) := fun o => (five_cells (heap_more HB2.out)).1.2.1
    have j2 : ∀ o, (w2.alloc o).cell? ⟨w.heap.size, 2, none⟩ = some (.int .i64 p.n) := fun o => (five_cells (heap_more HB2.out)).1.2.2.1
    have j3 : ∀ o, (w2.alloc o).cell? ⟨w.heap.size, 3, none⟩ = some (.string p.name) := fun o => (five_cells (heap_more HB2.out)).1.2.2.2.1
    have j4 : ∀ o, (w2.alloc o).cell? ⟨w.heap.size, 4, none⟩ = some (.slice kb kn kc) := fun o => (five_cells (heap_more HB2.out)).1.2.2.2.2
    go_wp2_with fail
    refine (HW.out _ HG2.out).mono ?_; rintro e w3 ⟨va, vc, rfl, g3, hv⟩
    have HG3 := hidd (HG2.out.trans g3)
    have HV := hidd hv
    have HS3 := hidd (heap_kept g3 HSB.out)
    clear g3 hv HW HB2 HG2 HSB j0 j1 j2 j3 j4
    go_wp2_with fail
    obtain ⟨hlm, hva⟩ : la.length ≤ 9223372036854775807 ∧ True := ⟨by obtain ⟨_, _, _, _, h⟩ := HV.out.len; exact h, trivial⟩
    go_loopw [16, 40] (fun _ u wr => ∃ k : Nat, k ≤ la.length ∧ u = .int .i64 k ∧ Hid (Grew w3 wr)) (fun _ u _ => la.length - (intOf u).toNat)
    case atStart => exact ⟨0, Nat.zero_le _, rfl, Grew.refl _⟩
    case round =>
      obtain ⟨k, hk, rfl, HGr⟩ := hrel
      by_cases hlt : k < la.length
      · obtain ⟨b, o', rfl, hc⟩ : ∃ b o : Nat, va = some ⟨b, o, none⟩ ∧ ∀ i, i < la.length → wr.cell? ⟨b, o + i * 2, none⟩ = some (.int .i64 (la.getD i way0).1) ∧ ∃ gv, wr.cell? ⟨b, o + i * 2 + 1, none⟩ = some gv ∧ GiftsV wr gv (la.getD i way0).2 := by
          rcases HV.out.kept HGr.out with ⟨_, _, e, e2⟩ | ⟨b, o, c, e, _, _, _, h⟩
          · rw [e2] at hlt; simp at hlt
          · cases e; exact ⟨b, o, rfl, h⟩
        obtain ⟨c0, gv, c1, hgv⟩ := hc k hlt
        obtain ⟨gp, gc, rfl, _⟩ := hgv.len
        have hmem : la.getD k way0 ∈ la := by rw [List.getD_eq_getElem?_getD, List.getElem?_eq_getElem hlt]; exact List.getElem_mem hlt
        obtain ⟨q1, q2, q3, q4'⟩ := HALL.out _ hmem
        obtain ⟨⟨x1, x2⟩, hx⟩ : ∃ x, la.getD k way0 = x := ⟨_, rfl⟩
        rw [hx] at c0 c1 q1 q2 q3 q4'
        dsimp only at c0 c1 q1 q2 q3 q4'
        clear hx hmem hgv hc
        by_cases hxa : (x1 : Int) = (a : Int)
        · have f1 : ((x1 : Int) == (a : Int)) = true := by rw [hxa]; simp
          have f2 : decide ((a : Int) < (x1 : Int)) = false := decide_eq_false (by omega)
          have f3 : decide (a < x1) = false := decide_eq_false (by omega)
          have hn := q3 hxa
          subst hn
          clear q3 q4' hxa
          go_wp2_with fail
          go_quiet (fail)
          go_wp2_with fail
          go_roundw
          case rel => exact ⟨k + 1, by omega, by go_num, (HGr.out.alloc _).drewN _⟩
          case measure => simp [intOf]; omega
        · have f1 : ((x1 : Int) == (a : Int)) = false := by rw [beq_eq_false_iff_ne]; exact hxa
          have f2 : decide ((a : Int) < (x1 : Int)) = true := decide_eq_true (by omega)
          have f3 : decide (a < x1) = true := decide_eq_true (by omega)
          obtain ⟨c, hc, hSc⟩ := q4' (by omega)
          obtain ⟨qq, hq⟩ : ∃ q, q = c.toNat / 64 := ⟨_, rfl⟩
          obtain ⟨rr, hr⟩ : ∃ q, q = c.toNat % 64 := ⟨_, rfl⟩
          have hc256 := c.toNat_lt
          have hal : a < s.size := by omega
          have hq1 : ((c.toNat : Int) / 64) = (qq : Int) := by omega
          have hr1 : ((c.toNat : Int) % 64) = (rr : Int) := by omega
          have hsa : (s[a]'hal).toNat = c.toNat := by have := byte_idx hc; rw [show s[a]? = some (s[a]'hal) by simp [hal]] at this; cases this; rfl
          have hq6 : IntKind.u8.wrap (((s[a]'hal).toNat : Int) / 64) = (qq : Int) := by rw [hsa, hq1]; unfold IntKind.wrap; simp [IntKind.signed, IntKind.bits]; omega
          have hr3 : Int.tmod ((s[a]'hal).toNat : Int) 64 = (rr : Int) := by rw [hsa, Int.tmod_eq_emod_of_nonneg (by omega)]; omega
          have hr4 : (((s[a]'hal).toNat : Int) % 64) = (rr : Int) := by rw [hsa]; omega
          have hr5 : IntKind.u8.wrap (rr : Int) = (rr : Int) := by unfold IntKind.wrap; simp [IntKind.signed, IntKind.bits]; omega
          clear hsa
          have hq4 : qq < 4 := by omega
          have hr64 : rr < 64 := by omega
          have HBN := hidd (bit_not hq hr hSc)
          have hbn := HBN.out
          have cw0 := fun o => word_cell (heap_more (o := o) (heap_kept HGr.out HS3.out)) hq4
          have hca := byte_idx hc
          clear q3 q4' hxa hq hr hSc
          go_wp2_with fail
          go_quiet (fail)
          go_wp2_with fail
          go_roundw
          case rel => exact ⟨k + 1, by omega, by go_num, (HGr.out.alloc _).drewN _⟩
          case measure => simp [intOf]; omega
      · go_wp2_with fail
        go_ret
        exact ⟨rfl, HG3.out.trans HGr.out⟩
  · have kz : (ea == 0) = false := by rw [beq_eq_false_iff_ne]; exact hz
    clear hz HE HL0 hL
    go_enter Tryd.func8, Tryd.ntmps8
    go_wp2_with fail
    refine (HAl.out _ ((Grew.refl w).alloc _)).mono ?_; rintro e w1 ⟨rfl, g1⟩
    have HG := hidd (((Grew.refl w).alloc _).trans g1)
    have HB1 := hidd (heap_kept g1 HB0.out)
    obtain ⟨⟨k0, k1, k2, k3, k4⟩, kf⟩ := five_cells HB1.out
    clear g1 HAl HB0
    go_wp2_with fail
    refine (HFi.out _ HG.out).mono ?_; rintro e w2 ⟨rfl, g2⟩
    have HG2 := hidd ((HG.out.trans g2).alloc (.cells #[.int .u64 (q4 S 0), .int .u64 (q4 S 1), .int .u64 (q4 S 2), .int .u64 (q4 S 3)] 36))
    have HB2 := hidd (heap_kept g2 HB1.out)
    have HSB := hidd (heap_alloc_new w2 (.cells #[.int .u64 (q4 S 0), .int .u64 (q4 S 1), .int .u64 (q4 S 2), .int .u64 (q4 S 3)] 36))
    clear g2 HFi HB1 HG k0 k1 k2 k3 k4 kf
    have j0 : ∀ o, (w2.alloc o).cell? ⟨w.heap.size, 0, none⟩ = some (.int .i64 p.kind) := fun o => (five_cells (heap_more HB2.out)).1.1
    have j1 : ∀ o, (w2.alloc o).cell? ⟨w.heap.size, 1, none⟩ = some (.string p.text) := fun o => (five_cells (heap_more HB2.out)).1.2.1
    have j2 : ∀ o, (w2.alloc o).cell? ⟨w.heap.size, 2, none⟩ = some (.int .i64 p.n) := fun o => (five_cells (heap_more HB2.out)).1.2.2.1
    have j3 : ∀ o, (w2.alloc o).cell? ⟨w.heap.size, 3, none⟩ = some (.string p.name) := fun o => (five_cells (heap_more HB2.out)).1.2.2.2.1
    have j4 : ∀ o, (w2.alloc o).cell? ⟨w.heap.size, 4, none⟩ = some (.slice kb kn kc) := fun o => (five_cells (heap_more HB2.out)).1.2.2.2.2
    go_wp2_with fail
    refine (HW.out _ HG2.out).mono ?_; rintro e w3 ⟨va, vc, rfl, g3, hv⟩
    have HG3 := hidd (HG2.out.trans g3)
    have HV := hidd hv
    have HS3 := hidd (heap_kept g3 HSB.out)
    clear g3 hv HW HB2 HG2 HSB j0 j1 j2 j3 j4
    go_wp2_with fail
    go_ret
    exact ⟨rfl, HG3.out⟩
end
end Go.Proofs.YtmcfoefhenmjeaaDoor
