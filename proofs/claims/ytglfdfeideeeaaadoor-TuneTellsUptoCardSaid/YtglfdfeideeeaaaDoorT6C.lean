/- The document's Null, at every right pattern. -/
import Derived.Test.YtglfdfeideeeaaaDoorT6B
namespace Go.Proofs.YtglfdfeideeeaaaDoor
open Go.RowKit
set_option linter.unusedVariables false
theorem nil_size (t : ByteArray) : t.toList.isEmpty = (t.size == 0) := by
  rw [Lib.toList_data, Bool.eq_iff_iff, List.isEmpty_iff, beq_iff_eq, size_data]
  exact ⟨fun h => by rw [h]; rfl, List.eq_nil_of_length_eq_zero⟩
set_option maxRecDepth 100000 in
set_option maxHeartbeats 16000000 in
theorem NullR_any : ∀ (N : Nat) (kv : Value) (p : Pat) (w : World), PatV w kv p → errW p = 0 → nodesP p ≤ N →
    Calls Tryd.prog 22 #[.agg (p.cells kv)] w fun e w' => e = .returned (.bool (refP p).nl) ∧ Grew w w'
  | 0 => fun kv p w hp he hN => by have := nodesP_pos p; omega
  | N + 1 => fun kv p w hp he hN => by
    have IH := hidd (NullR_any N)
    obtain ⟨ka, kc, ekv, hkl, hkids⟩ := kids_ok hp he
    subst ekv
    have hok := ((errW_iff p).1 he).1
    have HX := hidd (refP_eq p)
    have HBx := hidd (pat_box w p (.slice ka p.kids.length kc))
    have HG0 : Hid (Grew w (w.alloc (.cells (p.cells (.slice ka p.kids.length kc)) 24))) := (Grew.refl w).alloc _
    have HRg : Hid (∀ i, i < p.kids.length → ∃ h2 : i < (refL p.kids).length, (refL p.kids)[i]'h2 = refP (p.kids.getD i Pat.zero)) := fun i h => refL_get h
    have HRl : Hid ((refL p.kids).length = p.kids.length) := refL_length _
    obtain ⟨kk, hkk⟩ : ∃ kk, p.kind = kk := ⟨_, rfl⟩
    obtain ⟨kl, hkl0⟩ : ∃ kl, p.kids.length = kl := ⟨_, rfl⟩
    obtain ⟨rs, hrs⟩ : ∃ rs, refL p.kids = rs := ⟨_, rfl⟩
    have hmany := hok.many
    have honly := hok.only
    have hht := hp.ht
    have hKn : Hid (∀ i, i < kl → errW (p.kids.getD i Pat.zero) = 0 ∧ nodesP (p.kids.getD i Pat.zero) ≤ N) := by
      rw [Hid, ← hkl0]
      intro i hi
      rcases hkids with h | ⟨b, o, _, _, _, _, hko⟩
      · omega
      · have := hko.nodes i hi
        exact ⟨hko.right i hi, by omega⟩
    have HK : Hid (kl = 0 ∨ ∃ b o, ka = some ⟨b, o, none⟩ ∧ 0 < kl ∧ kl ≤ kc ∧ kc ≤ maxLen ∧ ∀ i, i < kl → PatAt w b (o + i * 5) (p.kids.getD i Pat.zero)) := by
      rw [Hid, ← hkl0]
      rcases hkids with h | ⟨b, o, h1, h2, h3, h4, hko⟩
      · exact Or.inl h
      · exact Or.inr ⟨b, o, h1, h2, h3, h4, hko.at_⟩
    rw [hkk] at hmany honly HX
    rw [hkl0] at hmany honly HRg HRl HG0 HBx hkl
    rw [hrs] at HX HRg HRl
    unfold Pat.cells at HG0 HBx ⊢
    rw [hkk] at HG0 HBx ⊢
    rw [hkl0] at ⊢
    rw [HX.out]
    clear hkk hkl0 hrs hok hkids hp he hN HX
    obtain ⟨wo, rfl⟩ : ∃ wo, wo = w := ⟨_, rfl⟩
    by_cases k3 : kk = 3
    · subst k3
      have HV : Hid ((refK 3 p.text p.n rs).nl = false) := rfl
      rw [HV.out]
      clear hmany honly
      go_enter Tryd.func22, Tryd.ntmps22
      go_wp2_with fail
      go_ret
      exact ⟨rfl, HG0.out⟩
    by_cases k4 : kk = 4
    · subst k4
      have HV : Hid ((refK 4 p.text p.n rs).nl = false) := rfl
      rw [HV.out]
      clear hmany honly
      go_enter Tryd.func22, Tryd.ntmps22
      go_wp2_with fail
      go_ret
      exact ⟨rfl, HG0.out⟩
    by_cases k5 : kk = 5
    · subst k5
      have HV : Hid ((refK 5 p.text p.n rs).nl = false) := rfl
      rw [HV.out]
      clear hmany honly
      go_enter Tryd.func22, Tryd.ntmps22
      go_wp2_with fail
      go_ret
      exact ⟨rfl, HG0.out⟩
    by_cases k14 : kk = 14
    · subst k14
      have HV : Hid ((refK 14 p.text p.n rs).nl = false) := rfl
      rw [HV.out]
      clear hmany honly
      go_enter Tryd.func22, Tryd.ntmps22
      go_wp2_with fail
      go_ret
      exact ⟨rfl, HG0.out⟩
    by_cases k15 : kk = 15
    · subst k15
      have HV : Hid ((refK 15 p.text p.n rs).nl = false) := rfl
      rw [HV.out]
      clear hmany honly
      go_enter Tryd.func22, Tryd.ntmps22
      go_wp2_with fail
      go_ret
      exact ⟨rfl, HG0.out⟩
    by_cases k17 : kk = 17
    · subst k17
      have HV : Hid ((refK 17 p.text p.n rs).nl = false) := rfl
      rw [HV.out]
      clear hmany honly
      go_enter Tryd.func22, Tryd.ntmps22
      go_wp2_with fail
      go_ret
      exact ⟨rfl, HG0.out⟩
    by_cases k18 : kk = 18
    · subst k18
      have HV : Hid ((refK 18 p.text p.n rs).nl = rs.all (·.nl)) := rfl
      rw [HV.out]
      have hm2 := (hmany (by omega)).1
      rcases HK.out with hk0 | ⟨b', o', rfl, hk0, hk1, hk2, hks⟩
      · omega
      have HKs := hidd hks
      unfold maxLen at hk2
      have c4 := (HBx.out _ (Grew.refl _)).2.2.2.2
      clear hmany honly hks hm2
      go_enter Tryd.func22, Tryd.ntmps22
      go_wp2_with fail
      clear c4
      go_loopw [4, 39] (fun _ u39 wr => ∃ i : Nat, u39 = .int .i64 i ∧ i ≤ kl ∧ Hid ((rs.take i).all (·.nl) = true) ∧ Hid (Grew wo wr)) (fun _ u39 _ => kl - (intOf u39).toNat)
      case atStart => exact ⟨0, rfl, Nat.zero_le _, rfl, HG0.out⟩
      case round =>
        obtain ⟨i, rfl, hi, HA, HGr⟩ := hrel
        clear HG0 HBx
        by_cases hlt : i < kl
        · have s1 : decide ((i : Int) < (kl : Int)) = true := decide_eq_true (by omega)
          have s2 : decide (i < kl) = true := decide_eq_true hlt
          obtain ⟨kq, hnq, hvq⟩ := (HKs.out i hlt).value
          obtain ⟨h2, hget⟩ := HRg.out i hlt
          obtain ⟨her, hnr⟩ := hKn.out i hlt
          have hil : i < rs.length := h2
          obtain ⟨r, hr⟩ : ∃ r, p.kids.getD i Pat.zero = r := ⟨_, rfl⟩
          rw [hr] at hnq hvq hget her hnr
          clear hr
          obtain ⟨ra, rc, ekq, _⟩ := hvq.kids.len
          subst ekq
          have HC : Hid (Calls Tryd.prog 22 #[.agg (r.cells (.slice ra r.kids.length rc))] (wr.alloc (.cells (r.cells (.slice ra r.kids.length rc)) 24)) fun e w' => e = .returned (.bool (refP r).nl) ∧ Hid (Grew wo w')) :=
            (IH.out _ r _ (hvq.kept (HGr.out.trans ((Grew.refl wr).alloc _))) her hnr).mono fun e w' ⟨h1, h2⟩ => ⟨h1, (HGr.out.trans ((Grew.refl wr).alloc _)).trans h2⟩
          obtain ⟨k0, k1, k2, k3, k4, _, _, _, _⟩ := hnq.kept HGr.out
          unfold Pat.cells at HC
          obtain ⟨rk, hrk⟩ : ∃ rk, r.kids.length = rk := ⟨_, rfl⟩
          rw [hrk] at HC k4
          obtain ⟨v, hv⟩ : ∃ v, (refP r).nl = v := ⟨_, rfl⟩
          rw [hv] at HC
          cases v with
          | false =>
            have HF : Hid (rs.all (·.nl) = false) := allR_hit Rf.nl hil (by rw [hget]; exact hv)
            clear hnq hvq hrk hv hget her hnr hil
            go_wp2_with fail
            refine HC.out.mono ?_; rintro e w2 ⟨rfl, G2⟩
            go_wp2_with fail
            go_ret
            rw [HF.out]
            exact ⟨rfl, G2.out⟩
          | true =>
            have HF : Hid ((rs.take (i + 1)).all (·.nl) = true) := allR_take Rf.nl hil HA.out (by rw [hget]; exact hv)
            clear hnq hvq hrk hv hget her hnr hil
            go_wp2_with fail
            refine HC.out.mono ?_; rintro e w2 ⟨rfl, G2⟩
            go_wp2_with fail
            go_roundw
            case rel => exact ⟨i + 1, by go_num, by omega, HF, G2.out⟩
            case measure => simp [intOf]; omega
        · obtain rfl : i = kl := by omega
          have s1 : decide ((i : Int) < (i : Int)) = false := decide_eq_false (by omega)
          have s2 : decide (i < i) = false := decide_eq_false (by omega)
          have HF : Hid (rs.all (·.nl) = true) := by have h := HA.out; rw [← HRl.out, List.take_length] at h; exact h
          go_wp2_with fail
          go_ret
          rw [HF.out]
          exact ⟨rfl, HGr.out⟩
    by_cases k19 : kk = 19
    · subst k19
      have HV : Hid ((refK 19 p.text p.n rs).nl = rs.any (·.nl)) := rfl
      rw [HV.out]
      have hm2 := (hmany (by omega)).1
      rcases HK.out with hk0 | ⟨b', o', rfl, hk0, hk1, hk2, hks⟩
      · omega
      have HKs := hidd hks
      unfold maxLen at hk2
      have c4 := (HBx.out _ (Grew.refl _)).2.2.2.2
      clear hmany honly hks hm2
      go_enter Tryd.func22, Tryd.ntmps22
      go_wp2_with fail
      clear c4
      go_loopw [6, 52] (fun _ u52 wr => ∃ i : Nat, u52 = .int .i64 i ∧ i ≤ kl ∧ Hid ((rs.take i).any (·.nl) = false) ∧ Hid (Grew wo wr)) (fun _ u52 _ => kl - (intOf u52).toNat)
      case atStart => exact ⟨0, rfl, Nat.zero_le _, rfl, HG0.out⟩
      case round =>
        obtain ⟨i, rfl, hi, HA, HGr⟩ := hrel
        clear HG0 HBx
        by_cases hlt : i < kl
        · have s1 : decide ((i : Int) < (kl : Int)) = true := decide_eq_true (by omega)
          have s2 : decide (i < kl) = true := decide_eq_true hlt
          obtain ⟨kq, hnq, hvq⟩ := (HKs.out i hlt).value
          obtain ⟨h2, hget⟩ := HRg.out i hlt
          obtain ⟨her, hnr⟩ := hKn.out i hlt
          have hil : i < rs.length := h2
          obtain ⟨r, hr⟩ : ∃ r, p.kids.getD i Pat.zero = r := ⟨_, rfl⟩
          rw [hr] at hnq hvq hget her hnr
          clear hr
          obtain ⟨ra, rc, ekq, _⟩ := hvq.kids.len
          subst ekq
          have HC : Hid (Calls Tryd.prog 22 #[.agg (r.cells (.slice ra r.kids.length rc))] (wr.alloc (.cells (r.cells (.slice ra r.kids.length rc)) 24)) fun e w' => e = .returned (.bool (refP r).nl) ∧ Hid (Grew wo w')) :=
            (IH.out _ r _ (hvq.kept (HGr.out.trans ((Grew.refl wr).alloc _))) her hnr).mono fun e w' ⟨h1, h2⟩ => ⟨h1, (HGr.out.trans ((Grew.refl wr).alloc _)).trans h2⟩
          obtain ⟨k0, k1, k2, k3, k4, _, _, _, _⟩ := hnq.kept HGr.out
          unfold Pat.cells at HC
          obtain ⟨rk, hrk⟩ : ∃ rk, r.kids.length = rk := ⟨_, rfl⟩
          rw [hrk] at HC k4
          obtain ⟨v, hv⟩ : ∃ v, (refP r).nl = v := ⟨_, rfl⟩
          rw [hv] at HC
          cases v with
          | true =>
            have HF : Hid (rs.any (·.nl) = true) := anyR_hit Rf.nl hil (by rw [hget]; exact hv)
            clear hnq hvq hrk hv hget her hnr hil
            go_wp2_with fail
            refine HC.out.mono ?_; rintro e w2 ⟨rfl, G2⟩
            go_wp2_with fail
            go_ret
            rw [HF.out]
            exact ⟨rfl, G2.out⟩
          | false =>
            have HF : Hid ((rs.take (i + 1)).any (·.nl) = false) := anyR_take Rf.nl hil HA.out (by rw [hget]; exact hv)
            clear hnq hvq hrk hv hget her hnr hil
            go_wp2_with fail
            refine HC.out.mono ?_; rintro e w2 ⟨rfl, G2⟩
            go_wp2_with fail
            go_roundw
            case rel => exact ⟨i + 1, by go_num, by omega, HF, G2.out⟩
            case measure => simp [intOf]; omega
        · obtain rfl : i = kl := by omega
          have s1 : decide ((i : Int) < (i : Int)) = false := decide_eq_false (by omega)
          have s2 : decide (i < i) = false := decide_eq_false (by omega)
          have HF : Hid (rs.any (·.nl) = false) := by have h := HA.out; rw [← HRl.out, List.take_length] at h; exact h
          go_wp2_with fail
          go_ret
          rw [HF.out]
          exact ⟨rfl, HGr.out⟩
    by_cases k21 : kk = 21
    · subst k21
      have HV : Hid ((refK 21 p.text p.n rs).nl = (rs.getD 0 rf0).nl) := rfl
      rw [HV.out]
      obtain rfl := honly (by omega)
      rcases HK.out with hk0 | ⟨b', o', rfl, hk0, hk1, hk2, hks⟩
      · omega
      have HKs := hidd hks
      unfold maxLen at hk2
      have c4 := (HBx.out _ (Grew.refl _)).2.2.2.2
      have hlt : 0 < 1 := Nat.succ_pos _
      obtain ⟨i, hi0⟩ : ∃ i : Nat, i = 0 := ⟨_, rfl⟩
      rw [← hi0] at hlt
      clear hmany honly hks
      obtain ⟨kq, hnq, hvq⟩ := (HKs.out i hlt).value
      obtain ⟨h2, hget⟩ := HRg.out i hlt
      obtain ⟨her, hnr⟩ := hKn.out i hlt
      have hil : i < rs.length := h2
      obtain ⟨r, hr⟩ : ∃ r, p.kids.getD i Pat.zero = r := ⟨_, rfl⟩
      rw [hr] at hnq hvq hget her hnr
      clear hr
      obtain ⟨ra, rc, ekq, _⟩ := hvq.kids.len
      subst ekq
      have HC : Hid (Calls Tryd.prog 22 #[.agg (r.cells (.slice ra r.kids.length rc))] (wo.alloc (.cells #[.int .i64 21, .string p.text, .int .i64 p.n, .string p.name, .slice (some ⟨b', o', none⟩) 1 kc] 24)) fun e w' => e = .returned (.bool (rs.getD 0 rf0).nl) ∧ Hid (Grew wo w')) :=
        (IH.out _ r _ (hvq.kept HG0.out) her hnr).mono fun e w' ⟨h1, h2⟩ => ⟨by rw [h1, ← hget, ← hi0, List.getD_eq_getElem?_getD, List.getElem?_eq_getElem hil]; rfl, HG0.out.trans h2⟩
      subst hi0
      obtain ⟨k0, k1, k2, k3, k4, _, _, _, _⟩ := hnq.kept HG0.out
      unfold Pat.cells at HC
      obtain ⟨rk, hrk⟩ : ∃ rk, r.kids.length = rk := ⟨_, rfl⟩
      rw [hrk] at HC k4
      obtain ⟨v, hv⟩ : ∃ v, (rs.getD 0 rf0).nl = v := ⟨_, rfl⟩
      rw [hv] at HC ⊢
      rw [Nat.zero_mul, Nat.add_zero] at k0 k1 k2 k3 k4
      clear hnq hvq hrk hv hget her hnr hil
      go_enter Tryd.func22, Tryd.ntmps22
      go_wp2_with fail
      refine HC.out.mono ?_; rintro e w2 ⟨rfl, G2⟩
      go_wp2_with fail
      go_ret
      exact ⟨rfl, G2.out⟩
    by_cases k22 : kk = 22
    · subst k22
      have HV : Hid ((refK 22 p.text p.n rs).nl = (rs.getD 0 rf0).nl) := rfl
      rw [HV.out]
      obtain rfl := honly (by omega)
      rcases HK.out with hk0 | ⟨b', o', rfl, hk0, hk1, hk2, hks⟩
      · omega
      have HKs := hidd hks
      unfold maxLen at hk2
      have c4 := (HBx.out _ (Grew.refl _)).2.2.2.2
      have hlt : 0 < 1 := Nat.succ_pos _
      obtain ⟨i, hi0⟩ : ∃ i : Nat, i = 0 := ⟨_, rfl⟩
      rw [← hi0] at hlt
      clear hmany honly hks
      obtain ⟨kq, hnq, hvq⟩ := (HKs.out i hlt).value
      obtain ⟨h2, hget⟩ := HRg.out i hlt
      obtain ⟨her, hnr⟩ := hKn.out i hlt
      have hil : i < rs.length := h2
      obtain ⟨r, hr⟩ : ∃ r, p.kids.getD i Pat.zero = r := ⟨_, rfl⟩
      rw [hr] at hnq hvq hget her hnr
      clear hr
      obtain ⟨ra, rc, ekq, _⟩ := hvq.kids.len
      subst ekq
      have HC : Hid (Calls Tryd.prog 22 #[.agg (r.cells (.slice ra r.kids.length rc))] (wo.alloc (.cells #[.int .i64 22, .string p.text, .int .i64 p.n, .string p.name, .slice (some ⟨b', o', none⟩) 1 kc] 24)) fun e w' => e = .returned (.bool (rs.getD 0 rf0).nl) ∧ Hid (Grew wo w')) :=
        (IH.out _ r _ (hvq.kept HG0.out) her hnr).mono fun e w' ⟨h1, h2⟩ => ⟨by rw [h1, ← hget, ← hi0, List.getD_eq_getElem?_getD, List.getElem?_eq_getElem hil]; rfl, HG0.out.trans h2⟩
      subst hi0
      obtain ⟨k0, k1, k2, k3, k4, _, _, _, _⟩ := hnq.kept HG0.out
      unfold Pat.cells at HC
      obtain ⟨rk, hrk⟩ : ∃ rk, r.kids.length = rk := ⟨_, rfl⟩
      rw [hrk] at HC k4
      obtain ⟨v, hv⟩ : ∃ v, (rs.getD 0 rf0).nl = v := ⟨_, rfl⟩
      rw [hv] at HC ⊢
      rw [Nat.zero_mul, Nat.add_zero] at k0 k1 k2 k3 k4
      clear hnq hvq hrk hv hget her hnr hil
      go_enter Tryd.func22, Tryd.ntmps22
      go_wp2_with fail
      refine HC.out.mono ?_; rintro e w2 ⟨rfl, G2⟩
      go_wp2_with fail
      go_ret
      exact ⟨rfl, G2.out⟩
    by_cases k1 : kk = 1
    · subst k1
      have HV : Hid ((refK 1 p.text p.n rs).nl = (p.text.size == 0)) := rfl
      rw [HV.out]
      have c1 := (HBx.out _ (Grew.refl _)).2.1
      have HS : Hid (p.text.toList.isEmpty = (p.text.size == 0)) := nil_size p.text
      clear hmany honly hht
      go_enter Tryd.func22, Tryd.ntmps22
      go_wp2_with fail
      go_ret
      exact ⟨by rw [← HS.out]; rfl, HG0.out⟩
    by_cases k2 : kk = 2
    · subst k2
      have HV : Hid ((refK 2 p.text p.n rs).nl = (p.n == 0)) := rfl
      rw [HV.out]
      have c2 := (HBx.out _ (Grew.refl _)).2.2.1
      clear hmany honly hht
      go_enter Tryd.func22, Tryd.ntmps22
      go_wp2_with fail
      go_ret
      exact ⟨rfl, HG0.out⟩
    have HV : Hid ((refK kk p.text p.n rs).nl = true) := by show _ = _; unfold refK; simp [k1, k2, k3, k4, k5, k14, k15, k17, k18, k19, k21, k22]
    rw [HV.out]
    have r1 : (kk == 1) = false := beq_eq_false_iff_ne.2 k1
    have r2 : (kk == 2) = false := beq_eq_false_iff_ne.2 k2
    have r3 : (kk == 3) = false := beq_eq_false_iff_ne.2 k3
    have r4 : (kk == 4) = false := beq_eq_false_iff_ne.2 k4
    have r5 : (kk == 5) = false := beq_eq_false_iff_ne.2 k5
    have r14 : (kk == 14) = false := beq_eq_false_iff_ne.2 k14
    have r15 : (kk == 15) = false := beq_eq_false_iff_ne.2 k15
    have r17 : (kk == 17) = false := beq_eq_false_iff_ne.2 k17
    have r18 : (kk == 18) = false := beq_eq_false_iff_ne.2 k18
    have r19 : (kk == 19) = false := beq_eq_false_iff_ne.2 k19
    have r21 : (kk == 21) = false := beq_eq_false_iff_ne.2 k21
    have r22 : (kk == 22) = false := beq_eq_false_iff_ne.2 k22
    clear hmany honly k1 k2 k3 k4 k5 k14 k15 k17 k18 k19 k21 k22
    go_enter Tryd.func22, Tryd.ntmps22
    go_wp2_with fail
    go_ret
    exact ⟨rfl, HG0.out⟩
end Go.Proofs.YtglfdfeideeeaaaDoor
