/- The step and the ends of the automaton over a pattern's places. -/
import Derived.Test.YtkkdpafkafjfgaaDoorMkPScInv
import Derived.Test.YtkkdpafkafjfgaaDoorMkAuSm
namespace Go.Proofs.YtkkdpafkafjfgaaDoor
open Go.RowKit RR
set_option linter.unusedVariables false
set_option linter.unusedSimpArgs false
set_option maxRecDepth 100000
def mayTo (g : Gl) (s r : Nat) : Nat := (List.range 12).foldl (fun m q => if s.testBit q && !r.testBit q then m ||| g.fo.getD q 0 else m) 0
def stTo (g : Gl) (M r c : Nat) : Nat := (List.range 12).foldl (fun m q => if M.testBit q && (r.testBit q || g.sets.getD q (fun _ => false) c) then m ||| 2 ^ q else m) 0
theorem mayTo_bit (g : Gl) (s r i : Nat) : (mayTo g s r).testBit i = true ↔ ∃ q, q < 12 ∧ (s.testBit q && !r.testBit q) = true ∧ (g.fo.getD q 0).testBit i = true := by
  unfold mayTo; rw [fold_or, Nat.zero_testBit]
  exact ⟨fun x => x.elim (fun h => absurd h Bool.false_ne_true) id, Or.inr⟩
theorem stTo_bit (g : Gl) (M r c i : Nat) : (stTo g M r c).testBit i = true ↔ i < 12 ∧ M.testBit i = true ∧ (r.testBit i || g.sets.getD i (fun _ => false) c) = true := by
  unfold stTo; rw [fold_or, Nat.zero_testBit]
  constructor
  · rintro (h | ⟨q, h1, h2, h3⟩)
    · exact absurd h Bool.false_ne_true
    · obtain rfl := bit_pow.1 h3
      rw [Bool.and_eq_true] at h2
      exact ⟨h1, h2.1, h2.2⟩
  · rintro ⟨h1, h2, h3⟩
    exact Or.inr ⟨i, h1, by rw [Bool.and_eq_true]; exact ⟨h2, h3⟩, bit_pow.2 rfl⟩
theorem mayTo_start (g : Gl) (s : Nat) : mayTo g s s = 0 := by
  apply Nat.eq_of_testBit_eq; intro i
  rw [Nat.zero_testBit, Bool.eq_false_iff]
  intro h
  obtain ⟨q, _, h2, _⟩ := (mayTo_bit g s s i).1 h
  cases e : s.testBit q <;> rw [e] at h2 <;> cases h2
theorem mayTo_done (g : Gl) (o : Part) {s : Nat} (h : s ≠ begin_) : mayTo g s 0 = mayG g o s := by
  unfold mayTo mayG; rw [if_neg h]
  simp [Nat.zero_testBit]
theorem mayTo_step (g : Gl) {s r k : Nat} (hr : r < 4294967296) (h0 : r ≠ 0) (hk : Lib.ctz 32 r = k) (hsub : ∀ i, r.testBit i = true → s.testBit i = true) (h12 : k < 12) : mayTo g s (r &&& (r - 1)) = mayTo g s r ||| g.fo.getD k 0 := by
  obtain ⟨h1, h2⟩ := low32 hr h0
  rw [hk] at h1 h2
  apply Nat.eq_of_testBit_eq; intro i
  rw [Bool.eq_iff_iff, Nat.testBit_or, Bool.or_eq_true, mayTo_bit, mayTo_bit]
  constructor
  · rintro ⟨q, hq, h3, h4⟩
    by_cases e : q = k
    · subst e; exact Or.inr h4
    · refine Or.inl ⟨q, hq, ?_, h4⟩
      rw [h2] at h3; simpa [e] using h3
  · rintro (⟨q, hq, h3, h4⟩ | h4)
    · refine ⟨q, hq, ?_, h4⟩
      rw [Bool.and_eq_true] at h3 ⊢
      refine ⟨h3.1, ?_⟩
      have : r.testBit q = false := by simpa using h3.2
      rw [h2, this]; rfl
    · refine ⟨k, h12, ?_, h4⟩
      rw [h2, hsub k h1]; simp
theorem stTo_start (g : Gl) {M : Nat} (hM : M < 4096) (c : Nat) : stTo g M M c = M := by
  apply Nat.eq_of_testBit_eq; intro i
  rw [Bool.eq_iff_iff, stTo_bit]
  exact ⟨fun h => h.2.1, fun h => ⟨bit_lt12 hM h, h, by rw [h]; rfl⟩⟩
theorem stTo_done (g : Gl) (o : Part) (s c : Nat) : stTo g (mayG g o s) 0 c = stG g o s c := by
  unfold stTo stG
  simp [Nat.zero_testBit]
theorem stTo_has (g : Gl) {M r k c : Nat} (hr : r < 4294967296) (h0 : r ≠ 0) (hk : Lib.ctz 32 r = k) (hh : g.sets.getD k (fun _ => false) c = true) : stTo g M (r &&& (r - 1)) c = stTo g M r c := by
  obtain ⟨h1, h2⟩ := low32 hr h0
  rw [hk] at h1 h2
  apply Nat.eq_of_testBit_eq; intro i
  rw [Bool.eq_iff_iff, stTo_bit, stTo_bit]
  by_cases e : i = k
  · subst e; rw [hh]; simp
  · rw [h2]; simp [e]
theorem stTo_not (g : Gl) {M r k c : Nat} (hr : r < 4294967296) (h0 : r ≠ 0) (hk : Lib.ctz 32 r = k) (hh : g.sets.getD k (fun _ => false) c = false) (h12 : k < 12) : stTo g M (r &&& (r - 1)) c = stTo g M r c &&& (4294967295 - 2 ^ k) := by
  obtain ⟨h1, h2⟩ := low32 hr h0
  rw [hk] at h1 h2
  have hp : 2 ^ k < 4294967296 := Nat.lt_of_lt_of_le (Nat.pow_lt_pow_right (a := 2) (by decide) h12) (by decide)
  apply Nat.eq_of_testBit_eq; intro i
  rw [Bool.eq_iff_iff, Nat.testBit_and, Bool.and_eq_true, stTo_bit, stTo_bit, not32 _ hp, Nat.testBit_two_pow]
  by_cases e : i = k
  · subst e; rw [h2, hh]; simp
  · rw [h2]
    constructor
    · rintro ⟨a, b, c⟩
      exact ⟨⟨a, b, by simpa [e] using c⟩, by rw [decide_eq_true (by omega : i < 32)]; simp; omega⟩
    · rintro ⟨⟨a, b, c⟩, _⟩
      exact ⟨a, b, by simpa [e] using c⟩
theorem StepIn.kept {w w' : World} {rb gb ob : Nat} {g : Gl} {o : Part} (h : StepIn w rb gb ob g o) (k : Grew w w') : StepIn w' rb gb ob g o := by
  obtain ⟨a, c, fa, fc, h1, h2, h3⟩ := h.blk
  exact ⟨heap_kept k h.root, k.keeps h.ptr, ⟨a, c, fa, fc, heap_kept k h1, fun q hq => by
    obtain ⟨b, off, e, hc⟩ := h2 q hq
    exact ⟨b, off, e, fun j hj => k.keeps (hc j hj)⟩, fun q hq => by
    obtain ⟨b, off, e, hc⟩ := h3 q hq
    exact ⟨b, off, e, k.keeps hc⟩⟩, h.fits, h.inn, h.inf, h.tab.kept k⟩
theorem EndG_any {w : World} {rb gb ob : Nat} {g : Gl} {o : Part} (h : StepIn w rb gb ob g o) (s : Nat) (hs : s < 4096 ∨ s = begin_) : Calls Tryd.prog 31 #[.int .u32 (s : Nat), .pointer (some ⟨rb, 0, none⟩)] w fun e w' => e = .returned (.bool (enG o s)) ∧ Grew w w' := by
  have c1 : w.cell? ⟨rb, 1, none⟩ = some (.int .u32 (o.last : Nat)) := cell_of h.root 1
  have c2 : w.cell? ⟨rb, 2, none⟩ = some (.bool o.null) := cell_of h.root 2
  have hl := (h.inn.small h.fits).last
  have HE : Hid (enG o s = if s = begin_ then o.null else decide (s &&& o.last ≠ 0)) := rfl
  clear h
  obtain ⟨l, hll⟩ : ∃ l, o.last = l := ⟨_, rfl⟩
  obtain ⟨z, hzz⟩ : ∃ z, o.null = z := ⟨_, rfl⟩
  rw [hll] at c1 hl HE
  rw [hzz] at c2 HE
  obtain ⟨en, hen⟩ : ∃ en, enG o s = en := ⟨_, rfl⟩
  rw [hen] at HE ⊢
  clear hll hzz hen
  by_cases hb : s = begin_
  · have k0 : ((s : Int) == 2147483648) = true := by rw [hb]; rfl
    have HE2 : Hid (en = z) := by rw [Hid, HE.out, if_pos hb]
    clear HE hb hs
    go_enter Tryd.func31, Tryd.ntmps31
    go_wp2_with fail
    go_ret
    exact ⟨by rw [HE2.out]; rfl, Grew.refl _⟩
  · have hs2 : s < 4096 := hs.elim id (fun e => absurd e hb)
    have k0 : ((s : Int) == 2147483648) = false := by simp; omega
    have ha := and32 s l (by omega) (by omega)
    have HE2 : Hid (en = decide (s &&& l ≠ 0)) := by rw [Hid, HE.out, if_neg hb]
    obtain ⟨x, hx⟩ : ∃ x, s &&& l = x := ⟨_, rfl⟩
    rw [hx] at ha HE2
    have HE3 : Hid (((x : Int) != 0) = en) := by
      rw [Hid, HE2.out]
      by_cases h0 : x = 0
      · subst h0; rfl
      · rw [decide_eq_true h0]; simpa using h0
    have hq := HE3.out
    clear HE hb hx HE2
    go_enter Tryd.func31, Tryd.ntmps31
    go_wp2_with (simp only [ha, hq])
    go_ret
    exact ⟨rfl, Grew.refl _⟩
theorem andNotPow {m k : Nat} (hm : m < 4096) (hk : k < 12) : bits .andNot .u32 (m : Int) ((2 : Int) ^ k % 4294967296) = ((m &&& (4294967295 - 2 ^ k) : Nat) : Int) := by
  have h1 : 2 ^ k < 4294967296 := Nat.lt_of_lt_of_le (Nat.pow_lt_pow_right (a := 2) (by decide) hk) (by decide)
  have e : (2 : Int) ^ k % 4294967296 = ((2 ^ k : Nat) : Int) := by
    rw [show (2 : Int) ^ k = ((2 ^ k : Nat) : Int) by simp]
    generalize 2 ^ k = P at h1
    omega
  rw [e]; exact andNot32 m _ (by omega) h1
set_option maxHeartbeats 4000000 in
theorem StepG_any {w : World} {rb gb ob : Nat} {g : Gl} {o : Part} (h : StepIn w rb gb ob g o) (s c : Nat) (hs : s < 2 ^ g.sets.length ∨ s = begin_) (hc : c < 256) : Calls Tryd.prog 27 #[.int .u32 (s : Nat), .int .u8 (c : Nat), .pointer (some ⟨rb, 0, none⟩), .pointer (some ⟨gb, 0, none⟩)] w fun e w' => e = .returned (.int .u32 (stG g o s c : Nat)) ∧ Grew w w' := by
  have HI := hidd h
  have H12 := hidd h.fits.le
  have r0 : w.cell? ⟨rb, 0, none⟩ = some (.int .u32 (o.first : Nat)) := cell_of h.root 0
  have HM4 : Hid (mayG g o s < 2 ^ g.sets.length) := may_lt h.inf h.inn s
  have HW0 := hidd (Grew.refl w)
  have hp12 := pow_le12 h.fits.le
  obtain ⟨M, hM⟩ : ∃ M, mayG g o s = M := ⟨_, rfl⟩
  have HMe := hidd hM
  rw [hM] at HM4
  have hM12 : M < 4096 := Nat.lt_of_lt_of_le HM4.out hp12
  obtain ⟨ans, hans⟩ : ∃ ans, stG g o s c = ans := ⟨_, rfl⟩
  have HAn : Hid (stTo g M 0 c = ans) := by rw [Hid, ← hM, stTo_done]; exact hans
  rw [hans]
  clear h hM hans
  by_cases hb : s = begin_
  · have k0 : ((s : Int) == 2147483648) = true := by rw [hb]; rfl
    have HM1 : Hid (o.first = M) := by have := HMe.out; unfold mayG at this; rwa [if_pos hb] at this
    rw [HM1.out] at r0
    clear hb hs HMe hp12
    go_enter Tryd.func27, Tryd.ntmps27
    go_wp2_with fail
    go_loopw [7, 8, 9] (fun s7 s8 s9 wr => ∃ r v : Nat, s8 = .int .u32 (r : Nat) ∧ s7 = .int .u32 (v : Nat) ∧ r ≤ 4096 ∧ v < 4096 ∧ Hid ((∀ i, r.testBit i = true → M.testBit i = true) ∧ stTo g M r c = v ∧ Grew w wr)) (fun _ s8 _ _ => (intOf s8).toNat)
    case atStart => exact ⟨M, M, rfl, rfl, by omega, by omega, fun i h => h, stTo_start g (by omega) c, HW0.out⟩
    case round =>
      obtain ⟨r, v, rfl, rfl, hr, hv, HR⟩ := hrel
      by_cases hr0 : r = 0
      · subst hr0
        have q0 : ((0 : Int) != 0) = false := rfl
        go_wp2_with fail
        go_ret
        obtain ⟨_, h1, h2⟩ := HR.out
        exact ⟨by rw [← HAn.out, h1]; rfl, h2⟩
      · have q0 : ((r : Int) != 0) = true := by simpa using hr0
        obtain ⟨hsub, hst, hgw⟩ := HR.out
        have hr32 : r < 4294967296 := by omega
        obtain ⟨k, hk⟩ : ∃ k, Lib.ctz 32 r = k := ⟨_, rfl⟩
        have h12 := H12.out
        have hkl : k < g.sets.length := by rw [← hk]; exact low32_lt (testBit_le hsub HM4.out) (by omega) hr0
        have HZ : Hid (Calls Tryd.prog 28 #[.int .u32 (r : Nat)] wr fun e w' => e = .returned (.int .i64 (k : Nat)) ∧ w' = wr) := by
          have := zeros32 r wr hr32 hr0 (HI.out.tab.kept hgw)
          rw [hk] at this; exact this
        obtain ⟨sa, sc, fa, fc, b1, b2, b3⟩ := (HI.out.kept hgw).blk
        obtain ⟨sb, so, rfl, hcs⟩ := b2 k hkl
        obtain ⟨L, hL⟩ : ∃ L, g.sets.length = L := ⟨_, rfl⟩
        rw [hL] at b1 hkl
        have d0 : wr.cell? ⟨gb, 0, none⟩ = some (.pointer (some ⟨ob, 0, none⟩)) := hgw.keeps HI.out.ptr
        have d1 : wr.cell? ⟨ob, 0, none⟩ = some (.slice (some ⟨sb, so, none⟩) L sc) := cell_of b1 0
        have e0 := hcs 0 (by decide)
        rw [Nat.add_zero] at e0
        have e1 := hcs 1 (by decide)
        have e2 := hcs 2 (by decide)
        have e3 := hcs 3 (by decide)
        obtain ⟨f, hf⟩ : ∃ f, g.sets.getD k (fun _ => false) = f := ⟨_, rfl⟩
        rw [hf] at e0 e1 e2 e3
        have HH : Hid (Calls Tryd.prog 29 #[setV f, .int .u8 c] wr fun e w' => e = .returned (.bool (f c)) ∧ Grew wr w') := Has_any f c wr hc
        unfold setV at HH
        obtain ⟨w0', hw0'⟩ : ∃ w0', word f 0 64 = w0' := ⟨_, rfl⟩
        obtain ⟨w1', hw1'⟩ : ∃ w1', word f 64 64 = w1' := ⟨_, rfl⟩
        obtain ⟨w2', hw2'⟩ : ∃ w2', word f 128 64 = w2' := ⟨_, rfl⟩
        obtain ⟨w3', hw3'⟩ : ∃ w3', word f 192 64 = w3' := ⟨_, rfl⟩
        rw [show 64 * 0 = 0 from rfl, hw0'] at e0
        rw [show 64 * 1 = 64 from rfl, hw1'] at e1
        rw [show 64 * 2 = 128 from rfl, hw2'] at e2
        rw [show 64 * 3 = 192 from rfl, hw3'] at e3
        rw [hw0', hw1', hw2', hw3'] at HH
        have HA := hidd (pred_and hr32 hr0)
        have HLt := and_pred_lt' r hr0
        have HN1 := hidd (fun hh => stTo_has g (M := M) (r := r) (k := k) (c := c) hr32 hr0 hk hh)
        have HN2 := hidd (fun hh => stTo_not g (M := M) (r := r) (k := k) (c := c) hr32 hr0 hk hh (by omega))
        rw [hf, hst] at HN1 HN2
        have HSub2 : Hid (∀ i, (r &&& (r - 1)).testBit i = true → M.testBit i = true) := fun i hi => hsub i (by rw [Nat.testBit_and, Bool.and_eq_true] at hi; exact hi.1)
        obtain ⟨r2, hr2⟩ : ∃ r2, r &&& (r - 1) = r2 := ⟨_, rfl⟩
        rw [hr2] at HA HLt HN1 HN2 HSub2
        have ha := HA.out
        have HGw := hidd hgw
        have HAp := hidd (andNotPow (m := v) hv (show k < 12 by omega))
        have hap := HAp.out
        obtain ⟨v2, hv2⟩ : ∃ v2, v &&& (4294967295 - 2 ^ k) = v2 := ⟨_, rfl⟩
        have hv2l : v2 < 4096 := by rw [← hv2]; exact Nat.lt_of_le_of_lt Nat.and_le_left hv
        rw [hv2] at hap HN2
        have hk31 : k ≤ 31 := by omega
        clear hst hsub hgw hw0' hw1' hw2' hw3' hf hk hr2 hv2 b1 b2 b3 hcs hL HR HAp
        go_wp2_with fail
        refine HZ.out.mono ?_; rintro e w7 ⟨rfl, hw7⟩
        rw [hw7]
        clear hw7
        go_wp2_with fail
        refine HH.out.mono ?_; rintro e w8 ⟨rfl, g8⟩
        have HG8 := hidd (HGw.out.trans g8)
        clear g8 HH HZ d0 d1 e0 e1 e2 e3
        obtain ⟨hh, hhe⟩ : ∃ hh, f c = hh := ⟨_, rfl⟩
        rw [hhe] at HN1 HN2 ⊢
        cases hh
        · have HN := hidd (HN2.out rfl)
          clear HN1 HN2 hhe
          go_wp2_with (simp only [ha, hap])
          exact ⟨⟨r2, v2, rfl, rfl, by omega, by omega, HSub2.out, HN.out, HG8.out⟩, by simp [intOf]; omega⟩
        · have HN := hidd (HN1.out rfl)
          clear HN1 HN2 hhe
          go_wp2_with (simp only [ha])
          exact ⟨⟨r2, v, rfl, rfl, by omega, by omega, HSub2.out, HN.out, HG8.out⟩, by simp [intOf]; omega⟩
  · have hs2 : s < 2 ^ g.sets.length := hs.elim id (fun e => absurd e hb)
    have hs3 : s < 4096 := by omega
    have k0 : ((s : Int) == 2147483648) = false := by simp; omega
    have HSb := hidd hs2
    have HM0 : Hid (mayTo g s 0 = M) := by rw [Hid, mayTo_done g o hb]; exact HMe.out
    have HMs := hidd (mayTo_start g s)
    clear hb hs HMe r0 hs2 hp12
    go_enter Tryd.func27, Tryd.ntmps27
    go_wp2_with fail
    go_loopw [0, 7] (fun s0 s7 wr => ∃ r m : Nat, s0 = .int .u32 (r : Nat) ∧ s7 = .int .u32 (m : Nat) ∧ r ≤ 4096 ∧ m < 4096 ∧ Hid ((∀ i, r.testBit i = true → s.testBit i = true) ∧ mayTo g s r = m ∧ Grew w wr)) (fun s0 _ _ => (intOf s0).toNat)
    case atStart => exact ⟨s, 0, rfl, rfl, by omega, by omega, fun i h => h, HMs.out, HW0.out⟩
    case round =>
      obtain ⟨r, m, rfl, rfl, hr, hm, HR⟩ := hrel
      by_cases hr0 : r = 0
      · have q0 : ((r : Int) != 0) = false := by rw [hr0]; rfl
        obtain ⟨_, h1, hgw⟩ := HR.out
        have hmM : m = M := by rw [← h1, hr0]; exact HM0.out
        subst hmM
        have HGx := hidd hgw
        clear h1 hgw HR hr hr0
        obtain ⟨r0, hr0'⟩ : ∃ r0, r = r0 := ⟨_, rfl⟩
        rw [hr0'] at q0 ⊢
        clear hr0'
        obtain ⟨wq, rfl⟩ : ∃ wq, wq = wr := ⟨_, rfl⟩
        go_wp2_with fail
        go_loopw [7, 8, 9] (fun s7 s8 s9 wr => ∃ r v : Nat, s8 = .int .u32 (r : Nat) ∧ s7 = .int .u32 (v : Nat) ∧ r ≤ 4096 ∧ v < 4096 ∧ Hid ((∀ i, r.testBit i = true → m.testBit i = true) ∧ stTo g m r c = v ∧ Grew w wr)) (fun _ s8 _ _ => (intOf s8).toNat)
        case atStart => exact ⟨m, m, rfl, rfl, by omega, by omega, fun i h => h, stTo_start g (by omega) c, HGx.out⟩
        case round =>
          obtain ⟨r, v, rfl, rfl, hr, hv, HR⟩ := hrel
          by_cases hr0 : r = 0
          · subst hr0
            have q0 : ((0 : Int) != 0) = false := rfl
            go_wp2_with fail
            go_ret
            obtain ⟨_, h1, h2⟩ := HR.out
            exact ⟨by rw [← HAn.out, h1]; rfl, h2⟩
          · have q0 : ((r : Int) != 0) = true := by simpa using hr0
            obtain ⟨hsub, hst, hgw⟩ := HR.out
            have hr32 : r < 4294967296 := by omega
            obtain ⟨k, hk⟩ : ∃ k, Lib.ctz 32 r = k := ⟨_, rfl⟩
            have h12 := H12.out
            have hkl : k < g.sets.length := by rw [← hk]; exact low32_lt (testBit_le hsub HM4.out) (by omega) hr0
            have HZ : Hid (Calls Tryd.prog 28 #[.int .u32 (r : Nat)] wr fun e w' => e = .returned (.int .i64 (k : Nat)) ∧ w' = wr) := by
              have := zeros32 r wr hr32 hr0 (HI.out.tab.kept hgw)
              rw [hk] at this; exact this
            obtain ⟨sa, sc, fa, fc, b1, b2, b3⟩ := (HI.out.kept hgw).blk
            obtain ⟨sb, so, rfl, hcs⟩ := b2 k hkl
            obtain ⟨L, hL⟩ : ∃ L, g.sets.length = L := ⟨_, rfl⟩
            rw [hL] at b1 hkl
            have d0 : wr.cell? ⟨gb, 0, none⟩ = some (.pointer (some ⟨ob, 0, none⟩)) := hgw.keeps HI.out.ptr
            have d1 : wr.cell? ⟨ob, 0, none⟩ = some (.slice (some ⟨sb, so, none⟩) L sc) := cell_of b1 0
            have e0 := hcs 0 (by decide)
            rw [Nat.add_zero] at e0
            have e1 := hcs 1 (by decide)
            have e2 := hcs 2 (by decide)
            have e3 := hcs 3 (by decide)
            obtain ⟨f, hf⟩ : ∃ f, g.sets.getD k (fun _ => false) = f := ⟨_, rfl⟩
            rw [hf] at e0 e1 e2 e3
            have HH : Hid (Calls Tryd.prog 29 #[setV f, .int .u8 c] wr fun e w' => e = .returned (.bool (f c)) ∧ Grew wr w') := Has_any f c wr hc
            unfold setV at HH
            obtain ⟨w0', hw0'⟩ : ∃ w0', word f 0 64 = w0' := ⟨_, rfl⟩
            obtain ⟨w1', hw1'⟩ : ∃ w1', word f 64 64 = w1' := ⟨_, rfl⟩
            obtain ⟨w2', hw2'⟩ : ∃ w2', word f 128 64 = w2' := ⟨_, rfl⟩
            obtain ⟨w3', hw3'⟩ : ∃ w3', word f 192 64 = w3' := ⟨_, rfl⟩
            rw [show 64 * 0 = 0 from rfl, hw0'] at e0
            rw [show 64 * 1 = 64 from rfl, hw1'] at e1
            rw [show 64 * 2 = 128 from rfl, hw2'] at e2
            rw [show 64 * 3 = 192 from rfl, hw3'] at e3
            rw [hw0', hw1', hw2', hw3'] at HH
            have HA := hidd (pred_and hr32 hr0)
            have HLt := and_pred_lt' r hr0
            have HN1 := hidd (fun hh => stTo_has g (M := m) (r := r) (k := k) (c := c) hr32 hr0 hk hh)
            have HN2 := hidd (fun hh => stTo_not g (M := m) (r := r) (k := k) (c := c) hr32 hr0 hk hh (by omega))
            rw [hf, hst] at HN1 HN2
            have HSub2 : Hid (∀ i, (r &&& (r - 1)).testBit i = true → m.testBit i = true) := fun i hi => hsub i (by rw [Nat.testBit_and, Bool.and_eq_true] at hi; exact hi.1)
            obtain ⟨r2, hr2⟩ : ∃ r2, r &&& (r - 1) = r2 := ⟨_, rfl⟩
            rw [hr2] at HA HLt HN1 HN2 HSub2
            have ha := HA.out
            have HGw := hidd hgw
            have HAp := hidd (andNotPow (m := v) hv (show k < 12 by omega))
            have hap := HAp.out
            obtain ⟨v2, hv2⟩ : ∃ v2, v &&& (4294967295 - 2 ^ k) = v2 := ⟨_, rfl⟩
            have hv2l : v2 < 4096 := by rw [← hv2]; exact Nat.lt_of_le_of_lt Nat.and_le_left hv
            rw [hv2] at hap HN2
            have hk31 : k ≤ 31 := by omega
            clear hst hsub hgw hw0' hw1' hw2' hw3' hf hk hr2 hv2 b1 b2 b3 hcs hL HR HAp
            go_wp2_with fail
            refine HZ.out.mono ?_; rintro e w7 ⟨rfl, hw7⟩
            rw [hw7]
            clear hw7
            go_wp2_with fail
            refine HH.out.mono ?_; rintro e w8 ⟨rfl, g8⟩
            have HG8 := hidd (HGw.out.trans g8)
            clear g8 HH HZ d0 d1 e0 e1 e2 e3
            obtain ⟨hh, hhe⟩ : ∃ hh, f c = hh := ⟨_, rfl⟩
            rw [hhe] at HN1 HN2 ⊢
            cases hh
            · have HN := hidd (HN2.out rfl)
              clear HN1 HN2 hhe
              go_wp2_with (simp only [ha, hap])
              exact ⟨⟨r2, v2, rfl, rfl, by omega, by omega, HSub2.out, HN.out, HG8.out⟩, by simp [intOf]; omega⟩
            · have HN := hidd (HN1.out rfl)
              clear HN1 HN2 hhe
              go_wp2_with (simp only [ha])
              exact ⟨⟨r2, v, rfl, rfl, by omega, by omega, HSub2.out, HN.out, HG8.out⟩, by simp [intOf]; omega⟩
      · have q0 : ((r : Int) != 0) = true := by simpa using hr0
        obtain ⟨hsub, hst, hgw⟩ := HR.out
        have hr32 : r < 4294967296 := by omega
        obtain ⟨k, hk⟩ : ∃ k, Lib.ctz 32 r = k := ⟨_, rfl⟩
        have h12 := H12.out
        have hkl : k < g.sets.length := by rw [← hk]; exact low32_lt (testBit_le hsub HSb.out) (by omega) hr0
        have hkf : k < g.fo.length := by rw [HI.out.fits.len]; exact hkl
        obtain ⟨sa, sc, fa, fc, b1, b2, b3⟩ := (HI.out.kept hgw).blk
        obtain ⟨fb, fo, rfl, hcf⟩ := b3 k hkf
        have d0 : wr.cell? ⟨gb, 0, none⟩ = some (.pointer (some ⟨ob, 0, none⟩)) := hgw.keeps HI.out.ptr
        have d1 : wr.cell? ⟨ob, 1, none⟩ = some (.slice (some ⟨fb, fo, none⟩) g.fo.length fc) := cell_of b1 1
        obtain ⟨x, hx⟩ : ∃ x, g.fo.getD k 0 = x := ⟨_, rfl⟩
        have hx12 : x < 4096 := by rw [← hx]; exact HI.out.fits.fo k
        rw [hx] at hcf
        have hmk := mayTo_step g hr32 hr0 hk hsub (show k < 12 by omega)
        rw [hx, hst] at hmk
        obtain ⟨m2, hm2⟩ : ∃ m2, m ||| x = m2 := ⟨_, rfl⟩
        rw [hm2] at hmk
        have hm2l : m2 < 4096 := by rw [← hm2]; exact or_lt hm hx12
        have hor := or32 m x (by omega) (by omega)
        rw [hm2] at hor
        have HZd : Hid (Calls Tryd.prog 28 #[.int .u32 (r : Nat)] wr.drew fun e w' => e = .returned (.int .i64 (k : Nat)) ∧ w' = wr.drew) := by
          have := zeros32 r wr.drew hr32 hr0 (HI.out.tab.kept (hgw.trans (drew_grew wr)))
          rw [hk] at this; exact this
        obtain ⟨fl, hfl⟩ : ∃ fl, g.fo.length = fl := ⟨_, rfl⟩
        rw [hfl] at d1 hkf
        have hk0 : wr.drew.cell? ⟨gb, 0, none⟩ = some (.pointer (some ⟨ob, 0, none⟩)) ∧ wr.drew.cell? ⟨ob, 1, none⟩ = some (.slice (some ⟨fb, fo, none⟩) fl fc) ∧ wr.drew.cell? ⟨fb, fo + k, none⟩ = some (.int .u32 (x : Nat)) := ⟨d0, d1, hcf⟩
        have HA := hidd (pred_and hr32 hr0)
        have HLt := and_pred_lt' r hr0
        have HSub2 : Hid (∀ i, (r &&& (r - 1)).testBit i = true → s.testBit i = true) := fun i hi => hsub i (by rw [Nat.testBit_and, Bool.and_eq_true] at hi; exact hi.1)
        obtain ⟨r2, hr2⟩ : ∃ r2, r &&& (r - 1) = r2 := ⟨_, rfl⟩
        rw [hr2] at HA HLt HSub2 hmk
        have ha := HA.out
        have HMk := hidd hmk
        have HGw := hidd hgw
        have HG2 := hidd (HGw.out.trans (drew_grew wr))
        clear hst hsub hgw hk hr2 b1 b2 b3 HR hm2 hx hmk d0 d1 hcf hfl
        go_wp2_with fail
        go_region_held3 (fun g => g.cell? ⟨gb, 0, none⟩ = some (.pointer (some ⟨ob, 0, none⟩)) ∧ g.cell? ⟨ob, 1, none⟩ = some (.slice (some ⟨fb, fo, none⟩) fl fc) ∧ g.cell? ⟨fb, fo + k, none⟩ = some (.int .u32 (x : Nat))) (first | go_keep | with_reducible exact hk0) (first | (go_at_call 28; refine HZd.out.mono ?_; rintro e w7 ⟨rfl, rfl⟩) | (simp only [hor]))
        all_goals
          go_wp2_with (simp only [ha])
          exact ⟨⟨r2, m2, rfl, rfl, by omega, by omega, HSub2.out, HMk.out, HG2.out⟩, by simp [intOf]; omega⟩
end Go.Proofs.YtkkdpafkafjfgaaDoor
