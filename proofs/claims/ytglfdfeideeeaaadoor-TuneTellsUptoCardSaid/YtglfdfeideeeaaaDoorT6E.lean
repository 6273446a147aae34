/- The document's Most, at every right pattern of at most 4096 nodes. -/
import Derived.Test.YtglfdfeideeeaaaDoorT6D
namespace Go.Proofs.YtglfdfeideeeaaaDoor
open Go.RowKit
set_option linter.unusedVariables false
set_option maxRecDepth 100000 in
set_option maxHeartbeats 16000000 in
theorem MostR_any : ∀ (N : Nat) (kv : Value) (p : Pat) (w : World), PatV w kv p → errW p = 0 → nodesP p ≤ N → nodesP p ≤ 4096 →
    Calls Tryd.prog 18 #[.agg (p.cells kv)] w fun e w' => e = .returned (.int .i64 (refP p).ms) ∧ Grew w w'
  | 0 => fun kv p w hp he hN hB => by have := nodesP_pos p; omega
  | N + 1 => fun kv p w hp he hN hB => by
    have IH := hidd (MostR_any N)
    obtain ⟨ka, kc, ekv, hkl, hkids⟩ := kids_ok hp he
    subst ekv
    have HOk : Hid (∀ i, i < p.kids.length → -1 ≤ (refP (p.kids.getD i Pat.zero)).ms ∧ (refP (p.kids.getD i Pat.zero)).ms ≤ 65536) := refs_most he hB
    have hok := ((errW_iff p).1 he).1
    have HX := hidd (refP_eq p)
    have HBx := hidd (pat_box w p (.slice ka p.kids.length kc))
    have HG0 : Hid (Grew w (w.alloc (.cells (p.cells (.slice ka p.kids.length kc)) 24))) := (Grew.refl w).alloc _
    have HRg : Hid (∀ i, i < p.kids.length → ∃ h2 : i < (refL p.kids).length, (refL p.kids)[i]'h2 = refP (p.kids.getD i Pat.zero)) := fun i h => refL_get h
    have HRl : Hid ((refL p.kids).length = p.kids.length) := refL_length _
    obtain ⟨kk, hkk⟩ : ∃ kk, p.kind = kk := ⟨_, rfl⟩
    obtain ⟨kl, hkl0⟩ : ∃ kl, p.kids.length = kl := ⟨_, rfl⟩
    obtain ⟨rs, hrs⟩ : ∃ rs, refL p.kids = rs := ⟨_, rfl⟩
    have hmany := hok.many
    have honly := hok.only
    have hht := hp.ht
    have hKn : Hid (∀ i, i < kl → errW (p.kids.getD i Pat.zero) = 0 ∧ nodesP (p.kids.getD i Pat.zero) ≤ N ∧ nodesP (p.kids.getD i Pat.zero) ≤ 4096) := by
      rw [Hid, ← hkl0]
      intro i hi
      rcases hkids with h | ⟨b, o, _, _, _, _, hko⟩
      · omega
      · have := hko.nodes i hi
        exact ⟨hko.right i hi, by omega, by omega⟩
    have HK : Hid (kl = 0 ∨ ∃ b o, ka = some ⟨b, o, none⟩ ∧ 0 < kl ∧ kl ≤ kc ∧ kc ≤ maxLen ∧ ∀ i, i < kl → PatAt w b (o + i * 5) (p.kids.getD i Pat.zero)) := by
      rw [Hid, ← hkl0]
      rcases hkids with h | ⟨b, o, h1, h2, h3, h4, hko⟩
      · exact Or.inl h
      · exact Or.inr ⟨b, o, h1, h2, h3, h4, hko.at_⟩
    rw [hkk] at hmany honly HX
    rw [hkl0] at HOk hmany honly HRg HRl HG0 HBx hkl
    rw [hrs] at HX HRg HRl
    unfold Pat.cells at HG0 HBx ⊢
    rw [hkk] at HG0 HBx ⊢
    rw [hkl0] at ⊢
    rw [HX.out]
    clear hkk hkl0 hrs hok hkids hp he hN hB HX
    obtain ⟨wo, rfl⟩ : ∃ wo, wo = w := ⟨_, rfl⟩
    by_cases k1 : kk = 1
    · subst k1
      have HV : Hid ((refK 1 p.text p.n rs).ms = p.text.size) := rfl
      rw [HV.out]
      have c1 := (HBx.out _ (Grew.refl _)).2.1
      unfold maxLen at hht
      clear hmany honly
      go_enter Tryd.func18, Tryd.ntmps18
      go_wp2_with fail
      go_ret
      exact ⟨rfl, HG0.out⟩
    by_cases k2 : kk = 2
    · subst k2
      have HV : Hid ((refK 2 p.text p.n rs).ms = p.n) := rfl
      rw [HV.out]
      have c2 := (HBx.out _ (Grew.refl _)).2.2.1
      clear hmany honly
      go_enter Tryd.func18, Tryd.ntmps18
      go_wp2_with fail
      go_ret
      exact ⟨rfl, HG0.out⟩
    by_cases k3 : kk = 3
    · subst k3
      have HV : Hid ((refK 3 p.text p.n rs).ms = 1) := rfl
      rw [HV.out]
      clear hmany honly
      go_enter Tryd.func18, Tryd.ntmps18
      go_wp2_with fail
      go_ret
      exact ⟨rfl, HG0.out⟩
    by_cases k4 : kk = 4
    · subst k4
      have HV : Hid ((refK 4 p.text p.n rs).ms = 1) := rfl
      rw [HV.out]
      clear hmany honly
      go_enter Tryd.func18, Tryd.ntmps18
      go_wp2_with fail
      go_ret
      exact ⟨rfl, HG0.out⟩
    by_cases k10 : kk = 10
    · subst k10
      have HV : Hid ((refK 10 p.text p.n rs).ms = 0) := rfl
      rw [HV.out]
      clear hmany honly
      go_enter Tryd.func18, Tryd.ntmps18
      go_wp2_with fail
      go_ret
      exact ⟨rfl, HG0.out⟩
    by_cases k11 : kk = 11
    · subst k11
      have HV : Hid ((refK 11 p.text p.n rs).ms = 0) := rfl
      rw [HV.out]
      clear hmany honly
      go_enter Tryd.func18, Tryd.ntmps18
      go_wp2_with fail
      go_ret
      exact ⟨rfl, HG0.out⟩
    by_cases k16 : kk = 16
    · subst k16
      have HV : Hid ((refK 16 p.text p.n rs).ms = 0) := rfl
      rw [HV.out]
      clear hmany honly
      go_enter Tryd.func18, Tryd.ntmps18
      go_wp2_with fail
      go_ret
      exact ⟨rfl, HG0.out⟩
    by_cases k23 : kk = 23
    · subst k23
      have HV : Hid ((refK 23 p.text p.n rs).ms = 0) := rfl
      rw [HV.out]
      clear hmany honly
      go_enter Tryd.func18, Tryd.ntmps18
      go_wp2_with fail
      go_ret
      exact ⟨rfl, HG0.out⟩
    by_cases k21 : kk = 21
    · subst k21
      have HV : Hid ((refK 21 p.text p.n rs).ms = (rs.getD 0 rf0).ms) := rfl
      rw [HV.out]
      obtain rfl := honly (by omega)
      rcases HK.out with hk0 | ⟨b', o', rfl, hk0, hk1, hk2, hks⟩
      · omega
      have HKs := hidd hks
      unfold maxLen at hk2
      have c4 := (HBx.out _ (Grew.refl _)).2.2.2.2
      have hlt : 0 < 1 := Nat.succ_pos _
      obtain ⟨i, hi0⟩ : ∃ i : Nat, i = 0 := ⟨_, rfl⟩
      rw [← hi0] at hlt
      clear hmany honly hks
      obtain ⟨kq, hnq, hvq⟩ := (HKs.out i hlt).value
      obtain ⟨hls0, hls1⟩ := HOk.out i hlt
      obtain ⟨h2, hget⟩ := HRg.out i hlt
      obtain ⟨her, hnr, hbr⟩ := hKn.out i hlt
      have hil : i < rs.length := h2
      obtain ⟨r, hr⟩ : ∃ r, p.kids.getD i Pat.zero = r := ⟨_, rfl⟩
      rw [hr] at hnq hvq hget her hnr hbr hls0 hls1
      clear hr
      obtain ⟨ra, rc, ekq, _⟩ := hvq.kids.len
      subst ekq
      have HC : Hid (Calls Tryd.prog 18 #[.agg (r.cells (.slice ra r.kids.length rc))] (wo.alloc (.cells #[.int .i64 21, .string p.text, .int .i64 p.n, .string p.name, .slice (some ⟨b', o', none⟩) 1 kc] 24)) fun e w' => e = .returned (.int .i64 (rs.getD 0 rf0).ms) ∧ Hid (Grew wo w')) :=
        (IH.out _ r _ (hvq.kept HG0.out) her hnr hbr).mono fun e w' ⟨h1, h2⟩ => ⟨by rw [h1, ← hget, ← hi0, List.getD_eq_getElem?_getD, List.getElem?_eq_getElem hil]; rfl, HG0.out.trans h2⟩
      subst hi0
      obtain ⟨k0, k1, k2, k3, k4, _, _, _, _⟩ := hnq.kept HG0.out
      unfold Pat.cells at HC
      obtain ⟨rk, hrk⟩ : ∃ rk, r.kids.length = rk := ⟨_, rfl⟩
      rw [hrk] at HC k4
      obtain ⟨v, hv⟩ : ∃ v, (rs.getD 0 rf0).ms = v := ⟨_, rfl⟩
      rw [hv] at HC ⊢
      rw [Nat.zero_mul, Nat.add_zero] at k0 k1 k2 k3 k4
      clear hnq hvq hrk hv hget her hnr hil hbr hls0 hls1
      go_enter Tryd.func18, Tryd.ntmps18
      go_wp2_with fail
      refine HC.out.mono ?_; rintro e w2 ⟨rfl, G2⟩
      go_wp2_with fail
      go_ret
      exact ⟨rfl, G2.out⟩
    by_cases k22 : kk = 22
    · subst k22
      have HV : Hid ((refK 22 p.text p.n rs).ms = (rs.getD 0 rf0).ms) := rfl
      rw [HV.out]
      obtain rfl := honly (by omega)
      rcases HK.out with hk0 | ⟨b', o', rfl, hk0, hk1, hk2, hks⟩
      · omega
      have HKs := hidd hks
      unfold maxLen at hk2
      have c4 := (HBx.out _ (Grew.refl _)).2.2.2.2
      have hlt : 0 < 1 := Nat.succ_pos _
      obtain ⟨i, hi0⟩ : ∃ i : Nat, i = 0 := ⟨_, rfl⟩
      rw [← hi0] at hlt
      clear hmany honly hks
      obtain ⟨kq, hnq, hvq⟩ := (HKs.out i hlt).value
      obtain ⟨hls0, hls1⟩ := HOk.out i hlt
      obtain ⟨h2, hget⟩ := HRg.out i hlt
      obtain ⟨her, hnr, hbr⟩ := hKn.out i hlt
      have hil : i < rs.length := h2
      obtain ⟨r, hr⟩ : ∃ r, p.kids.getD i Pat.zero = r := ⟨_, rfl⟩
      rw [hr] at hnq hvq hget her hnr hbr hls0 hls1
      clear hr
      obtain ⟨ra, rc, ekq, _⟩ := hvq.kids.len
      subst ekq
      have HC : Hid (Calls Tryd.prog 18 #[.agg (r.cells (.slice ra r.kids.length rc))] (wo.alloc (.cells #[.int .i64 22, .string p.text, .int .i64 p.n, .string p.name, .slice (some ⟨b', o', none⟩) 1 kc] 24)) fun e w' => e = .returned (.int .i64 (rs.getD 0 rf0).ms) ∧ Hid (Grew wo w')) :=
        (IH.out _ r _ (hvq.kept HG0.out) her hnr hbr).mono fun e w' ⟨h1, h2⟩ => ⟨by rw [h1, ← hget, ← hi0, List.getD_eq_getElem?_getD, List.getElem?_eq_getElem hil]; rfl, HG0.out.trans h2⟩
      subst hi0
      obtain ⟨k0, k1, k2, k3, k4, _, _, _, _⟩ := hnq.kept HG0.out
      unfold Pat.cells at HC
      obtain ⟨rk, hrk⟩ : ∃ rk, r.kids.length = rk := ⟨_, rfl⟩
      rw [hrk] at HC k4
      obtain ⟨v, hv⟩ : ∃ v, (rs.getD 0 rf0).ms = v := ⟨_, rfl⟩
      rw [hv] at HC ⊢
      rw [Nat.zero_mul, Nat.add_zero] at k0 k1 k2 k3 k4
      clear hnq hvq hrk hv hget her hnr hil hbr hls0 hls1
      go_enter Tryd.func18, Tryd.ntmps18
      go_wp2_with fail
      refine HC.out.mono ?_; rintro e w2 ⟨rfl, G2⟩
      go_wp2_with fail
      go_ret
      exact ⟨rfl, G2.out⟩
    by_cases k20 : kk = 20
    · subst k20
      have HV : Hid ((refK 20 p.text p.n rs).ms = if (rs.getD 0 rf0).nv = true ∨ (rs.getD 0 rf0).ms = 0 then 0 else -1) := rfl
      rw [HV.out]
      obtain rfl := honly (by omega)
      rcases HK.out with hk0 | ⟨b', o', rfl, hk0, hk1, hk2, hks⟩
      · omega
      have HKs := hidd hks
      unfold maxLen at hk2
      have c4 := (HBx.out _ (Grew.refl _)).2.2.2.2
      have hlt : 0 < 1 := Nat.succ_pos _
      obtain ⟨i, hi0⟩ : ∃ i : Nat, i = 0 := ⟨_, rfl⟩
      rw [← hi0] at hlt
      clear hmany honly hks
      obtain ⟨kq, hnq, hvq⟩ := (HKs.out i hlt).value
      obtain ⟨hls0, hls1⟩ := HOk.out i hlt
      obtain ⟨h2, hget⟩ := HRg.out i hlt
      obtain ⟨her, hnr, hbr⟩ := hKn.out i hlt
      have hil : i < rs.length := h2
      obtain ⟨r, hr⟩ : ∃ r, p.kids.getD i Pat.zero = r := ⟨_, rfl⟩
      rw [hr] at hnq hvq hget her hnr hbr hls0 hls1
      clear hr
      obtain ⟨ra, rc, ekq, _⟩ := hvq.kids.len
      subst ekq
      obtain ⟨sv, hsv⟩ : ∃ sv : Int, (if (rs.getD 0 rf0).nv = true ∨ (rs.getD 0 rf0).ms = 0 then 0 else -1) = sv := ⟨_, rfl⟩
      rw [hsv]
      have hg0 : rs.getD 0 rf0 = refP r := by rw [← hget, ← hi0, List.getD_eq_getElem?_getD, List.getElem?_eq_getElem hil]; rfl
      rw [hg0] at hsv
      have HN : Hid (Calls Tryd.prog 16 #[.agg (r.cells (.slice ra r.kids.length rc))] (wo.alloc (.cells #[.int .i64 20, .string p.text, .int .i64 p.n, .string p.name, .slice (some ⟨b', o', none⟩) 1 kc] 24)) fun e w' => e = .returned (.bool (refP r).nv) ∧ Hid (Grew (wo.alloc (.cells #[.int .i64 20, .string p.text, .int .i64 p.n, .string p.name, .slice (some ⟨b', o', none⟩) 1 kc] 24)) w')) :=
        (NeverR_any _ _ r _ (hvq.kept HG0.out) her (Nat.le_refl _)).mono fun e w' ⟨h1, h2⟩ => ⟨h1, h2⟩
      have HC : Hid (∀ w1, Grew (wo.alloc (.cells #[.int .i64 20, .string p.text, .int .i64 p.n, .string p.name, .slice (some ⟨b', o', none⟩) 1 kc] 24)) w1 → Calls Tryd.prog 18 #[.agg (r.cells (.slice ra r.kids.length rc))] w1 fun e w' => e = .returned (.int .i64 (refP r).ms) ∧ Hid (Grew wo w')) := fun w1 g =>
        (IH.out _ r _ (hvq.kept (HG0.out.trans g)) her hnr hbr).mono fun e w' ⟨h1, h2⟩ => ⟨h1, (HG0.out.trans g).trans h2⟩
      subst hi0
      have HKc := hidd (fun w1 (g : Grew (wo.alloc (.cells #[.int .i64 20, .string p.text, .int .i64 p.n, .string p.name, .slice (some ⟨b', o', none⟩) 1 kc] 24)) w1) => hnq.kept (HG0.out.trans g))
      obtain ⟨k0, k1, k2, k3, k4, _, _, _, _⟩ := hnq.kept HG0.out
      unfold Pat.cells at HC HN
      obtain ⟨rk, hrk⟩ : ∃ rk, r.kids.length = rk := ⟨_, rfl⟩
      rw [hrk] at HC HN k4
      obtain ⟨v, hv⟩ : ∃ v, (refP r).ms = v := ⟨_, rfl⟩
      rw [hv] at HC hsv
      obtain ⟨nv, hnv⟩ : ∃ nv, (refP r).nv = nv := ⟨_, rfl⟩
      rw [hnv] at HN hsv
      rw [Nat.zero_mul, Nat.add_zero] at k0 k1 k2 k3 k4
      cases nv with
      | true =>
        rw [if_pos (Or.inl rfl)] at hsv
        subst hsv
        clear hnq hvq hrk hv hget her hnr hil hbr hls0 hls1 hg0 hnv HKc HC
        go_enter Tryd.func18, Tryd.ntmps18
        go_wp2_with fail
        refine HN.out.mono ?_; rintro e w2 ⟨rfl, G2⟩
        go_wp2_with fail
        go_ret
        exact ⟨rfl, HG0.out.trans G2.out⟩
      | false =>
        by_cases hv0 : v = 0
        · have t1 : (v == 0) = true := beq_iff_eq.2 hv0
          rw [if_pos (Or.inr hv0)] at hsv
          subst hsv
          clear hv0
          clear hnq hvq hv hget her hnr hil hbr hls0 hls1 hg0 hnv
          go_enter Tryd.func18, Tryd.ntmps18
          go_wp2_with fail
          refine HN.out.mono ?_; rintro e w2 ⟨rfl, G2⟩
          clear k0 k1 k2 k3 k4
          obtain ⟨k0, k1, k2, k3, k4, _, _, _, _⟩ := HKc.out w2 G2.out
          rw [hrk] at k4
          rw [Nat.zero_mul, Nat.add_zero] at k0 k1 k2 k3 k4
          have c4b := (HBx.out w2 G2.out).2.2.2.2
          go_wp2_with fail
          refine (HC.out w2 G2.out).mono ?_; rintro e w3 ⟨rfl, G3⟩
          go_wp2_with fail
          go_ret
          exact ⟨rfl, G3.out⟩
        · have t1 : (v == 0) = false := beq_eq_false_iff_ne.2 hv0
          rw [if_neg (by rintro (h | h); cases h; exact hv0 h)] at hsv
          subst hsv
          clear hv0
          clear hnq hvq hv hget her hnr hil hbr hls0 hls1 hg0 hnv
          go_enter Tryd.func18, Tryd.ntmps18
          go_wp2_with fail
          refine HN.out.mono ?_; rintro e w2 ⟨rfl, G2⟩
          clear k0 k1 k2 k3 k4
          obtain ⟨k0, k1, k2, k3, k4, _, _, _, _⟩ := HKc.out w2 G2.out
          rw [hrk] at k4
          rw [Nat.zero_mul, Nat.add_zero] at k0 k1 k2 k3 k4
          have c4b := (HBx.out w2 G2.out).2.2.2.2
          go_wp2_with fail
          refine (HC.out w2 G2.out).mono ?_; rintro e w3 ⟨rfl, G3⟩
          go_wp2_with fail
          go_ret
          exact ⟨rfl, G3.out⟩
    by_cases k18 : kk = 18
    · subst k18
      have HV : Hid ((refK 18 p.text p.n rs).ms = mostR false 0 rs) := rfl
      rw [HV.out]
      have hm2 := hmany (by omega)
      rcases HK.out with hk0 | ⟨b', o', rfl, hk0, hk1, hk2, hks⟩
      · omega
      have HKs := hidd hks
      unfold maxLen at hk2
      have c4 := (HBx.out _ (Grew.refl _)).2.2.2.2
      clear hmany honly hks hm2
      go_enter Tryd.func18, Tryd.ntmps18
      go_wp2_with fail
      clear c4
      go_loopw [3, 5, 6, 55] (fun u3 _ _ u55 wr => ∃ (i : Nat) (n : Int), u55 = .int .i64 i ∧ u3 = .int .i64 n ∧ i ≤ kl ∧ 0 ≤ n ∧ n ≤ 65536 ∧ Hid (mostR false 0 rs = mostR false n (rs.drop i)) ∧ Hid (Grew (wo.alloc (.cells #[.int .i64 18, .string p.text, .int .i64 p.n, .string p.name, .slice (some ⟨b', o', none⟩) kl kc] 24)) wr)) (fun _ _ _ u55 _ => kl - (intOf u55).toNat)
      case atStart => exact ⟨0, 0, rfl, rfl, Nat.zero_le _, by omega, by omega, by rw [Hid, List.drop_zero], Grew.refl _⟩
      case round =>
        obtain ⟨i, n, rfl, rfl, hi, hn0, hn1, HA, HGr⟩ := hrel
        by_cases hlt : i < kl
        · have s1 : decide ((i : Int) < (kl : Int)) = true := decide_eq_true (by omega)
          have s2 : decide (i < kl) = true := decide_eq_true hlt
          obtain ⟨kq, hnq, hvq⟩ := (HKs.out i hlt).value
          obtain ⟨hls0, hls1⟩ := HOk.out i hlt
          obtain ⟨h2, hget⟩ := HRg.out i hlt
          obtain ⟨her, hnr, hbr⟩ := hKn.out i hlt
          have hil : i < rs.length := h2
          obtain ⟨r, hr⟩ : ∃ r, p.kids.getD i Pat.zero = r := ⟨_, rfl⟩
          rw [hr] at hnq hvq hget her hnr hbr hls0 hls1
          clear hr
          obtain ⟨ra, rc, ekq, _⟩ := hvq.kids.len
          subst ekq
          have hg3 : Grew wr (wr.alloc (.cells (r.cells (.slice ra r.kids.length rc)) 24)) := (Grew.refl wr).alloc _
          have HC : Hid (Calls Tryd.prog 18 #[.agg (r.cells (.slice ra r.kids.length rc))] (wr.alloc (.cells (r.cells (.slice ra r.kids.length rc)) 24)) fun e w' => e = .returned (.int .i64 (refP r).ms) ∧ Hid (Grew (wo.alloc (.cells #[.int .i64 18, .string p.text, .int .i64 p.n, .string p.name, .slice (some ⟨b', o', none⟩) kl kc] 24)) w' ∧ Grew (wr.alloc (.cells (r.cells (.slice ra r.kids.length rc)) 24)) w')) :=
            (IH.out _ r _ (hvq.kept (HG0.out.trans (HGr.out.trans hg3))) her hnr hbr).mono fun e w' ⟨h1, h2⟩ => ⟨h1, (HGr.out.trans hg3).trans h2, h2⟩
          have HN : Hid (∀ w1, Grew (wr.alloc (.cells (r.cells (.slice ra r.kids.length rc)) 24)) w1 → Calls Tryd.prog 16 #[.agg (r.cells (.slice ra r.kids.length rc))] w1 fun e w' => e = .returned (.bool (refP r).nv) ∧ Hid (Grew (wo.alloc (.cells #[.int .i64 18, .string p.text, .int .i64 p.n, .string p.name, .slice (some ⟨b', o', none⟩) kl kc] 24)) w')) := fun w1 g =>
            (NeverR_any _ _ r w1 (hvq.kept (HG0.out.trans ((HGr.out.trans hg3).trans g))) her (Nat.le_refl _)).mono fun e w' ⟨h1, h2⟩ => ⟨h1, ((HGr.out.trans hg3).trans g).trans h2⟩
          have HBr := hidd (pat_box wr r (.slice ra r.kids.length rc))
          have HDr : Hid (rs.drop i = refP r :: rs.drop (i + 1)) := by rw [Hid, List.drop_eq_getElem_cons hil, hget]
          obtain ⟨k0, k1, k2, k3, k4, _, _, _, _⟩ := hnq.kept (HG0.out.trans HGr.out)
          unfold Pat.cells at HC HN HBr
          obtain ⟨rk, hrk⟩ : ∃ rk, r.kids.length = rk := ⟨_, rfl⟩
          rw [hrk] at HC HN HBr k4
          obtain ⟨v, hv⟩ : ∃ v, (refP r).ms = v := ⟨_, rfl⟩
          rw [hv] at HC hls0 hls1
          obtain ⟨nv, hnv⟩ : ∃ nv, (refP r).nv = nv := ⟨_, rfl⟩
          rw [hnv] at HN
          have hcs : v < 0 ∨ (¬ v < 0 ∧ 65536 < n + v) ∨ (¬ v < 0 ∧ ¬ 65536 < n + v) := by omega
          rcases hcs with hc | ⟨hc, hc2⟩ | ⟨hc, hc2⟩
          · have t1 : decide (v < 0) = true := decide_eq_true hc
            have HS : Hid (mostR false 0 rs = -1) := by rw [Hid, HA.out, HDr.out, mostR_cat, hv, if_pos hc]
            clear hnq hvq hrk hv hget her hnr hil hbr hg3 hnv
            go_wp2_with fail
            refine HC.out.mono ?_; rintro e w2 ⟨rfl, G2⟩
            obtain ⟨x0, x1, x2, x3, x4⟩ := HBr.out w2 G2.out.2
            have y0 := (HBx.out w2 G2.out.1).1
            go_wp2_with fail
            go_ret
            rw [HS.out]
            exact ⟨rfl, HG0.out.trans G2.out.1⟩
          · have t1 : decide (v < 0) = false := decide_eq_false hc
            have t2 : decide (65536 < n + v) = true := decide_eq_true hc2
            have HS : Hid (mostR false 0 rs = -1) := by rw [Hid, HA.out, HDr.out, mostR_cat, hv, if_neg hc, if_pos hc2]
            clear hnq hvq hrk hv hget her hnr hil hbr hg3 hnv
            go_wp2_with fail
            refine HC.out.mono ?_; rintro e w2 ⟨rfl, G2⟩
            obtain ⟨x0, x1, x2, x3, x4⟩ := HBr.out w2 G2.out.2
            have y0 := (HBx.out w2 G2.out.1).1
            go_wp2_with fail
            go_ret
            rw [HS.out]
            exact ⟨rfl, HG0.out.trans G2.out.1⟩
          · have t1 : decide (v < 0) = false := decide_eq_false hc
            have t2 : decide (65536 < n + v) = false := decide_eq_false hc2
            have HS : Hid (mostR false 0 rs = mostR false (n + v) (rs.drop (i + 1))) := by rw [Hid, HA.out, HDr.out, mostR_cat, hv, if_neg hc, if_neg hc2]
            clear hnq hvq hrk hv hget her hnr hil hbr hg3 hnv
            go_wp2_with fail
            refine HC.out.mono ?_; rintro e w2 ⟨rfl, G2⟩
            obtain ⟨x0, x1, x2, x3, x4⟩ := HBr.out w2 G2.out.2
            have y0 := (HBx.out w2 G2.out.1).1
            go_wp2_with fail
            go_roundw
            case rel => exact ⟨i + 1, n + v, by go_num, by go_num, by omega, by omega, by omega, HS, G2.out.1⟩
            case measure => simp [intOf]; omega
        · obtain rfl : i = kl := by omega
          have s1 : decide ((i : Int) < (i : Int)) = false := decide_eq_false (by omega)
          have s2 : decide (i < i) = false := decide_eq_false (by omega)
          have HF : Hid (mostR false 0 rs = n) := by
            have h := HA.out
            rw [← HRl.out, List.drop_length, mostR] at h
            exact h
          go_wp2_with fail
          go_ret
          rw [HF.out]
          exact ⟨rfl, HG0.out.trans HGr.out⟩
    by_cases k19 : kk = 19
    · subst k19
      have HV : Hid ((refK 19 p.text p.n rs).ms = mostR true 0 rs) := rfl
      rw [HV.out]
      have hm2 := hmany (by omega)
      rcases HK.out with hk0 | ⟨b', o', rfl, hk0, hk1, hk2, hks⟩
      · omega
      have HKs := hidd hks
      unfold maxLen at hk2
      have c4 := (HBx.out _ (Grew.refl _)).2.2.2.2
      clear hmany honly hks hm2
      go_enter Tryd.func18, Tryd.ntmps18
      go_wp2_with fail
      clear c4
      go_loopw [3, 5, 6, 55] (fun u3 _ _ u55 wr => ∃ (i : Nat) (n : Int), u55 = .int .i64 i ∧ u3 = .int .i64 n ∧ i ≤ kl ∧ 0 ≤ n ∧ n ≤ 65536 ∧ Hid (mostR true 0 rs = mostR true n (rs.drop i)) ∧ Hid (Grew (wo.alloc (.cells #[.int .i64 19, .string p.text, .int .i64 p.n, .string p.name, .slice (some ⟨b', o', none⟩) kl kc] 24)) wr)) (fun _ _ _ u55 _ => kl - (intOf u55).toNat)
      case atStart => exact ⟨0, 0, rfl, rfl, Nat.zero_le _, by omega, by omega, by rw [Hid, List.drop_zero], Grew.refl _⟩
      case round =>
        obtain ⟨i, n, rfl, rfl, hi, hn0, hn1, HA, HGr⟩ := hrel
        by_cases hlt : i < kl
        · have s1 : decide ((i : Int) < (kl : Int)) = true := decide_eq_true (by omega)
          have s2 : decide (i < kl) = true := decide_eq_true hlt
          obtain ⟨kq, hnq, hvq⟩ := (HKs.out i hlt).value
          obtain ⟨hls0, hls1⟩ := HOk.out i hlt
          obtain ⟨h2, hget⟩ := HRg.out i hlt
          obtain ⟨her, hnr, hbr⟩ := hKn.out i hlt
          have hil : i < rs.length := h2
          obtain ⟨r, hr⟩ : ∃ r, p.kids.getD i Pat.zero = r := ⟨_, rfl⟩
          rw [hr] at hnq hvq hget her hnr hbr hls0 hls1
          clear hr
          obtain ⟨ra, rc, ekq, _⟩ := hvq.kids.len
          subst ekq
          have hg3 : Grew wr (wr.alloc (.cells (r.cells (.slice ra r.kids.length rc)) 24)) := (Grew.refl wr).alloc _
          have HC : Hid (Calls Tryd.prog 18 #[.agg (r.cells (.slice ra r.kids.length rc))] (wr.alloc (.cells (r.cells (.slice ra r.kids.length rc)) 24)) fun e w' => e = .returned (.int .i64 (refP r).ms) ∧ Hid (Grew (wo.alloc (.cells #[.int .i64 19, .string p.text, .int .i64 p.n, .string p.name, .slice (some ⟨b', o', none⟩) kl kc] 24)) w' ∧ Grew (wr.alloc (.cells (r.cells (.slice ra r.kids.length rc)) 24)) w')) :=
            (IH.out _ r _ (hvq.kept (HG0.out.trans (HGr.out.trans hg3))) her hnr hbr).mono fun e w' ⟨h1, h2⟩ => ⟨h1, (HGr.out.trans hg3).trans h2, h2⟩
          have HN : Hid (∀ w1, Grew (wr.alloc (.cells (r.cells (.slice ra r.kids.length rc)) 24)) w1 → Calls Tryd.prog 16 #[.agg (r.cells (.slice ra r.kids.length rc))] w1 fun e w' => e = .returned (.bool (refP r).nv) ∧ Hid (Grew (wo.alloc (.cells #[.int .i64 19, .string p.text, .int .i64 p.n, .string p.name, .slice (some ⟨b', o', none⟩) kl kc] 24)) w')) := fun w1 g =>
            (NeverR_any _ _ r w1 (hvq.kept (HG0.out.trans ((HGr.out.trans hg3).trans g))) her (Nat.le_refl _)).mono fun e w' ⟨h1, h2⟩ => ⟨h1, ((HGr.out.trans hg3).trans g).trans h2⟩
          have HBr := hidd (pat_box wr r (.slice ra r.kids.length rc))
          have HDr : Hid (rs.drop i = refP r :: rs.drop (i + 1)) := by rw [Hid, List.drop_eq_getElem_cons hil, hget]
          obtain ⟨k0, k1, k2, k3, k4, _, _, _, _⟩ := hnq.kept (HG0.out.trans HGr.out)
          unfold Pat.cells at HC HN HBr
          obtain ⟨rk, hrk⟩ : ∃ rk, r.kids.length = rk := ⟨_, rfl⟩
          rw [hrk] at HC HN HBr k4
          obtain ⟨v, hv⟩ : ∃ v, (refP r).ms = v := ⟨_, rfl⟩
          rw [hv] at HC hls0 hls1
          obtain ⟨nv, hnv⟩ : ∃ nv, (refP r).nv = nv := ⟨_, rfl⟩
          rw [hnv] at HN
          cases nv with
          | true =>
            have HS : Hid (mostR true 0 rs = mostR true n (rs.drop (i + 1))) := by rw [Hid, HA.out, HDr.out, mostR_skip hnv]
            clear hnq hvq hrk hv hget her hnr hil hbr hg3 hnv
            go_wp2_with fail
            refine HC.out.mono ?_; rintro e w2 ⟨rfl, G2⟩
            obtain ⟨x0, x1, x2, x3, x4⟩ := HBr.out w2 G2.out.2
            have y0 := (HBx.out w2 G2.out.1).1
            go_wp2_with fail
            refine (HN.out w2 G2.out.2).mono ?_; rintro e w3 ⟨rfl, G3⟩
            have z0 := (HBx.out w3 G3.out).1
            go_wp2_with fail
            go_roundw
            case rel => exact ⟨i + 1, n, by go_num, rfl, by omega, by omega, by omega, HS, G3.out⟩
            case measure => simp [intOf]; omega
          | false =>
            have hcs : v < 0 ∨ (¬ v < 0 ∧ n < v) ∨ (¬ v < 0 ∧ ¬ n < v) := by omega
            rcases hcs with hc | ⟨hc, hc2⟩ | ⟨hc, hc2⟩
            · have t1 : decide (v < 0) = true := decide_eq_true hc
              have HS : Hid (mostR true 0 rs = -1) := by rw [Hid, HA.out, HDr.out, mostR_alt hnv, hv, if_pos hc]
              clear hnq hvq hrk hv hget her hnr hil hbr hg3 hnv
              go_wp2_with fail
              refine HC.out.mono ?_; rintro e w2 ⟨rfl, G2⟩
              obtain ⟨x0, x1, x2, x3, x4⟩ := HBr.out w2 G2.out.2
              have y0 := (HBx.out w2 G2.out.1).1
              go_wp2_with fail
              refine (HN.out w2 G2.out.2).mono ?_; rintro e w3 ⟨rfl, G3⟩
              have z0 := (HBx.out w3 G3.out).1
              go_wp2_with fail
              go_ret
              rw [HS.out]
              exact ⟨rfl, HG0.out.trans G3.out⟩
            · have t1 : decide (v < 0) = false := decide_eq_false hc
              have t2 : decide (n < v) = true := decide_eq_true hc2
              have t3 : decide (65536 < v) = false := decide_eq_false (by omega)
              have HS : Hid (mostR true 0 rs = mostR true v (rs.drop (i + 1))) := by rw [Hid, HA.out, HDr.out, mostR_alt hnv, hv, if_neg hc, if_pos hc2, if_neg (by omega)]
              clear hnq hvq hrk hv hget her hnr hil hbr hg3 hnv
              go_wp2_with fail
              refine HC.out.mono ?_; rintro e w2 ⟨rfl, G2⟩
              obtain ⟨x0, x1, x2, x3, x4⟩ := HBr.out w2 G2.out.2
              have y0 := (HBx.out w2 G2.out.1).1
              go_wp2_with fail
              refine (HN.out w2 G2.out.2).mono ?_; rintro e w3 ⟨rfl, G3⟩
              have z0 := (HBx.out w3 G3.out).1
              go_wp2_with fail
              go_roundw
              case rel => exact ⟨i + 1, v, by go_num, rfl, by omega, by omega, by omega, HS, G3.out⟩
              case measure => simp [intOf]; omega
            · have t1 : decide (v < 0) = false := decide_eq_false hc
              have t2 : decide (n < v) = false := decide_eq_false hc2
              have t3 : decide (65536 < n) = false := decide_eq_false (by omega)
              have HS : Hid (mostR true 0 rs = mostR true n (rs.drop (i + 1))) := by rw [Hid, HA.out, HDr.out, mostR_alt hnv, hv, if_neg hc, if_neg hc2, if_neg (by omega)]
              clear hnq hvq hrk hv hget her hnr hil hbr hg3 hnv
              go_wp2_with fail
              refine HC.out.mono ?_; rintro e w2 ⟨rfl, G2⟩
              obtain ⟨x0, x1, x2, x3, x4⟩ := HBr.out w2 G2.out.2
              have y0 := (HBx.out w2 G2.out.1).1
              go_wp2_with fail
              refine (HN.out w2 G2.out.2).mono ?_; rintro e w3 ⟨rfl, G3⟩
              have z0 := (HBx.out w3 G3.out).1
              go_wp2_with fail
              go_roundw
              case rel => exact ⟨i + 1, n, by go_num, rfl, by omega, by omega, by omega, HS, G3.out⟩
              case measure => simp [intOf]; omega
        · obtain rfl : i = kl := by omega
          have s1 : decide ((i : Int) < (i : Int)) = false := decide_eq_false (by omega)
          have s2 : decide (i < i) = false := decide_eq_false (by omega)
          have HF : Hid (mostR true 0 rs = n) := by
            have h := HA.out
            rw [← HRl.out, List.drop_length, mostR] at h
            exact h
          go_wp2_with fail
          go_ret
          rw [HF.out]
          exact ⟨rfl, HG0.out.trans HGr.out⟩
    have HV : Hid ((refK kk p.text p.n rs).ms = -1) := by show _ = _; unfold refK; simp [k1, k2, k3, k4, k10, k11, k16, k18, k19, k20, k21, k22, k23]
    rw [HV.out]
    have r1 : (kk == 1) = false := beq_eq_false_iff_ne.2 k1
    have r2 : (kk == 2) = false := beq_eq_false_iff_ne.2 k2
    have r3 : (kk == 3) = false := beq_eq_false_iff_ne.2 k3
    have r4 : (kk == 4) = false := beq_eq_false_iff_ne.2 k4
    have r10 : (kk == 10) = false := beq_eq_false_iff_ne.2 k10
    have r11 : (kk == 11) = false := beq_eq_false_iff_ne.2 k11
    have r16 : (kk == 16) = false := beq_eq_false_iff_ne.2 k16
    have r18 : (kk == 18) = false := beq_eq_false_iff_ne.2 k18
    have r19 : (kk == 19) = false := beq_eq_false_iff_ne.2 k19
    have r20 : (kk == 20) = false := beq_eq_false_iff_ne.2 k20
    have r21 : (kk == 21) = false := beq_eq_false_iff_ne.2 k21
    have r22 : (kk == 22) = false := beq_eq_false_iff_ne.2 k22
    have r23 : (kk == 23) = false := beq_eq_false_iff_ne.2 k23
    clear hmany honly k1 k2 k3 k4 k10 k11 k16 k18 k19 k20 k21 k22 k23
    go_enter Tryd.func18, Tryd.ntmps18
    go_wp2_with fail
    go_ret
    exact ⟨rfl, HG0.out⟩
end Go.Proofs.YtglfdfeideeeaaaDoor
