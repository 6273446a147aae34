/- The document's Never, at every right pattern. -/
import Derived.Test.YtglfdfeideeeaaaDoorT6P
import Derived.Test.YtglfdfeideeeaaaDoorScWF
namespace Go.Proofs.YtglfdfeideeeaaaDoor
open Go.RowKit
set_option linter.unusedVariables false
structure KidsOk (w : World) (p : Pat) (b o : Nat) : Prop where
  at_ : ∀ i, i < p.kids.length → PatAt w b (o + i * 5) (p.kids.getD i Pat.zero)
  right : ∀ i, i < p.kids.length → errW (p.kids.getD i Pat.zero) = 0
  nodes : ∀ i, i < p.kids.length → nodesP (p.kids.getD i Pat.zero) < nodesP p
theorem kids_ok {w : World} {kv : Value} {p : Pat} (hp : PatV w kv p) (he : errW p = 0) : ∃ a c, kv = .slice a p.kids.length c ∧ p.kids.length ≤ 9223372036854775807 ∧ (p.kids.length = 0 ∨ ∃ b o, a = some ⟨b, o, none⟩ ∧ 0 < p.kids.length ∧ p.kids.length ≤ c ∧ c ≤ maxLen ∧ KidsOk w p b o) := by
  rcases hp.kids with ⟨x, y, e1, e2⟩ | ⟨b', o', c2, e1, h1, h2, h3, h4⟩
  · exact ⟨x, y, by rw [e1, e2]; rfl, by rw [e2]; exact Nat.zero_le _, Or.inl (by rw [e2]; rfl)⟩
  · have hm : ∀ i, i < p.kids.length → p.kids.getD i Pat.zero ∈ p.kids := fun i hi => by rw [List.getD_eq_getElem?_getD, List.getElem?_eq_getElem hi]; exact List.getElem_mem hi
    refine ⟨_, c2, e1, by unfold maxLen at h3; omega, Or.inr ⟨b', o', rfl, h1, h2, h3, h4, fun i hi => right_kids p he _ (hm i hi), fun i hi => ?_⟩⟩
    have := nodesL_mem (hm i hi)
    rw [nodesP_eq p]; omega
theorem anyR_take {α : Type} (f : α → Bool) {l : List α} {i : Nat} (h : i < l.length) (h0 : (l.take i).any f = false) (h1 : f (l[i]'h) = false) : (l.take (i + 1)).any f = false := by
  rw [List.take_succ_eq_append_getElem h, List.any_append, h0]; simp [h1]
theorem anyR_hit {α : Type} (f : α → Bool) {l : List α} {i : Nat} (h : i < l.length) (h1 : f (l[i]'h) = true) : l.any f = true := List.any_eq_true.2 ⟨_, List.getElem_mem h, h1⟩
theorem allR_take {α : Type} (f : α → Bool) {l : List α} {i : Nat} (h : i < l.length) (h0 : (l.take i).all f = true) (h1 : f (l[i]'h) = true) : (l.take (i + 1)).all f = true := by
  rw [List.take_succ_eq_append_getElem h, List.all_append, h0]; simp [h1]
theorem allR_hit {α : Type} (f : α → Bool) {l : List α} {i : Nat} (h : i < l.length) (h1 : f (l[i]'h) = false) : l.all f = false := by
  rw [← Bool.not_eq_true, List.all_eq_true]
  intro hx
  rw [hx _ (List.getElem_mem h)] at h1
  cases h1
theorem refL_get {p : Pat} {i : Nat} (h : i < p.kids.length) : ∃ h2 : i < (refL p.kids).length, (refL p.kids)[i]'h2 = refP (p.kids.getD i Pat.zero) := by
  refine ⟨by rw [refL_length]; exact h, ?_⟩
  have e : (refL p.kids)[i]? = some (refP (p.kids.getD i Pat.zero)) := by rw [refL_map, List.getElem?_map, List.getElem?_eq_getElem h, List.getD_eq_getElem?_getD, List.getElem?_eq_getElem h]; rfl
  have h2 : i < (refL p.kids).length := by rw [refL_length]; exact h
  rw [List.getElem?_eq_getElem h2] at e
  exact Option.some.inj e
set_option maxRecDepth 100000 in
set_option maxHeartbeats 16000000 in
theorem NeverR_any : ∀ (N : Nat) (kv : Value) (p : Pat) (w : World), PatV w kv p → errW p = 0 → nodesP p ≤ N →
    Calls Tryd.prog 16 #[.agg (p.cells kv)] w fun e w' => e = .returned (.bool (refP p).nv) ∧ Grew w w'
  | 0 => fun kv p w hp he hN => by have := nodesP_pos p; omega
  | N + 1 => fun kv p w hp he hN => by
    have IH := hidd (NeverR_any N)
    obtain ⟨ka, kc, ekv, hkl, hkids⟩ := kids_ok hp he
    subst ekv
    have hok := ((errW_iff p).1 he).1
    have HX := hidd (refP_eq p)
    have HBx := hidd (pat_box w p (.slice ka p.kids.length kc))
    have HG0 : Hid (Grew w (w.alloc (.cells (p.cells (.slice ka p.kids.length kc)) 24))) := (Grew.refl w).alloc _
    have HRg : Hid (∀ i, i < p.kids.length → ∃ h2 : i < (refL p.kids).length, (refL p.kids)[i]'h2 = refP (p.kids.getD i Pat.zero)) := fun i h => refL_get h
    have HRl : Hid ((refL p.kids).length = p.kids.length) := refL_length _
    obtain ⟨kk, hkk⟩ : ∃ kk, p.kind = kk := ⟨_, rfl⟩
    obtain ⟨kl, hkl0⟩ : ∃ kl, p.kids.length = kl := ⟨_, rfl⟩
    obtain ⟨rs, hrs⟩ : ∃ rs, refL p.kids = rs := ⟨_, rfl⟩
    have hmany := hok.many
    have honly := hok.only
    have hht := hp.ht
    have hKn : Hid (∀ i, i < kl → errW (p.kids.getD i Pat.zero) = 0 ∧ nodesP (p.kids.getD i Pat.zero) ≤ N) := by
      rw [Hid, ← hkl0]
      intro i hi
      rcases hkids with h | ⟨b, o, _, _, _, _, hko⟩
      · omega
      · have := hko.nodes i hi
        exact ⟨hko.right i hi, by omega⟩
    have HK : Hid (kl = 0 ∨ ∃ b o, ka = some ⟨b, o, none⟩ ∧ 0 < kl ∧ kl ≤ kc ∧ kc ≤ maxLen ∧ ∀ i, i < kl → PatAt w b (o + i * 5) (p.kids.getD i Pat.zero)) := by
      rw [Hid, ← hkl0]
      rcases hkids with h | ⟨b, o, h1, h2, h3, h4, hko⟩
      · exact Or.inl h
      · exact Or.inr ⟨b, o, h1, h2, h3, h4, hko.at_⟩
    rw [hkk] at hmany honly HX
    rw [hkl0] at hmany honly HRg HRl HG0 HBx hkl
    rw [hrs] at HX HRg HRl
    unfold Pat.cells at HG0 HBx ⊢
    rw [hkk] at HG0 HBx ⊢
    rw [hkl0] at ⊢
    rw [HX.out]
    clear hkk hkl0 hrs hok hkids hp he hN HX
    obtain ⟨wo, rfl⟩ : ∃ wo, wo = w := ⟨_, rfl⟩
    by_cases k15 : kk = 15
    · subst k15
      have HV : Hid ((refK 15 p.text p.n rs).nv = true) := rfl
      rw [HV.out]
      clear hmany honly
      go_enter Tryd.func16, Tryd.ntmps16
      go_wp2_with fail
      go_ret
      exact ⟨rfl, HG0.out⟩
    by_cases k17 : kk = 17
    · subst k17
      have HV : Hid ((refK 17 p.text p.n rs).nv = true) := rfl
      rw [HV.out]
      clear hmany honly
      go_enter Tryd.func16, Tryd.ntmps16
      go_wp2_with fail
      go_ret
      exact ⟨rfl, HG0.out⟩
    by_cases k18 : kk = 18
    · subst k18
      have HV : Hid ((refK 18 p.text p.n rs).nv = rs.any (·.nv)) := rfl
      rw [HV.out]
      have hm2 := (hmany (by omega)).1
      rcases HK.out with hk0 | ⟨b', o', rfl, hk0, hk1, hk2, hks⟩
      · omega
      have HKs := hidd hks
      unfold maxLen at hk2
      have c4 := (HBx.out _ (Grew.refl _)).2.2.2.2
      clear hmany honly hks hm2
      go_enter Tryd.func16, Tryd.ntmps16
      go_wp2_with fail
      clear c4
      go_loopw [4, 17] (fun _ u17 wr => ∃ i : Nat, u17 = .int .i64 i ∧ i ≤ kl ∧ Hid ((rs.take i).any (·.nv) = false) ∧ Hid (Grew wo wr)) (fun _ u17 _ => kl - (intOf u17).toNat)
      case atStart => exact ⟨0, rfl, Nat.zero_le _, rfl, HG0.out⟩
      case round =>
        obtain ⟨i, rfl, hi, HA, HGr⟩ := hrel
        clear HG0 HBx
        by_cases hlt : i < kl
        · have s1 : decide ((i : Int) < (kl : Int)) = true := decide_eq_true (by omega)
          have s2 : decide (i < kl) = true := decide_eq_true hlt
          obtain ⟨kq, hnq, hvq⟩ := (HKs.out i hlt).value
          obtain ⟨h2, hget⟩ := HRg.out i hlt
          obtain ⟨her, hnr⟩ := hKn.out i hlt
          have hil : i < rs.length := h2
          obtain ⟨r, hr⟩ : ∃ r, p.kids.getD i Pat.zero = r := ⟨_, rfl⟩
          rw [hr] at hnq hvq hget her hnr
          clear hr
          obtain ⟨ra, rc, ekq, _⟩ := hvq.kids.len
          subst ekq
          have HC : Hid (Calls Tryd.prog 16 #[.agg (r.cells (.slice ra r.kids.length rc))] (wr.alloc (.cells (r.cells (.slice ra r.kids.length rc)) 24)) fun e w' => e = .returned (.bool (refP r).nv) ∧ Hid (Grew wo w')) :=
            (IH.out _ r _ (hvq.kept (HGr.out.trans ((Grew.refl wr).alloc _))) her hnr).mono fun e w' ⟨h1, h2⟩ => ⟨h1, (HGr.out.trans ((Grew.refl wr).alloc _)).trans h2⟩
          obtain ⟨k0, k1, k2, k3, k4, _, _, _, _⟩ := hnq.kept HGr.out
          unfold Pat.cells at HC
          obtain ⟨rk, hrk⟩ : ∃ rk, r.kids.length = rk := ⟨_, rfl⟩
          rw [hrk] at HC k4
          obtain ⟨v, hv⟩ : ∃ v, (refP r).nv = v := ⟨_, rfl⟩
          rw [hv] at HC
          cases v with
          | true =>
            have HF : Hid (rs.any (·.nv) = true) := anyR_hit Rf.nv hil (by rw [hget]; exact hv)
            clear hnq hvq hrk hv hget her hnr hil
            go_wp2_with fail
            refine HC.out.mono ?_; rintro e w2 ⟨rfl, G2⟩
            go_wp2_with fail
            go_ret
            rw [HF.out]
            exact ⟨rfl, G2.out⟩
          | false =>
            have HF : Hid ((rs.take (i + 1)).any (·.nv) = false) := anyR_take Rf.nv hil HA.out (by rw [hget]; exact hv)
            clear hnq hvq hrk hv hget her hnr hil
            go_wp2_with fail
            refine HC.out.mono ?_; rintro e w2 ⟨rfl, G2⟩
            go_wp2_with fail
            go_roundw
            case rel => exact ⟨i + 1, by go_num, by omega, HF, G2.out⟩
            case measure => simp [intOf]; omega
        · obtain rfl : i = kl := by omega
          have s1 : decide ((i : Int) < (i : Int)) = false := decide_eq_false (by omega)
          have s2 : decide (i < i) = false := decide_eq_false (by omega)
          have HF : Hid (rs.any (·.nv) = false) := by have h := HA.out; rw [← HRl.out, List.take_length] at h; exact h
          go_wp2_with fail
          go_ret
          rw [HF.out]
          exact ⟨rfl, HGr.out⟩
    by_cases k19 : kk = 19
    · subst k19
      have HV : Hid ((refK 19 p.text p.n rs).nv = rs.all (·.nv)) := rfl
      rw [HV.out]
      have hm2 := (hmany (by omega)).1
      rcases HK.out with hk0 | ⟨b', o', rfl, hk0, hk1, hk2, hks⟩
      · omega
      have HKs := hidd hks
      unfold maxLen at hk2
      have c4 := (HBx.out _ (Grew.refl _)).2.2.2.2
      clear hmany honly hks hm2
      go_enter Tryd.func16, Tryd.ntmps16
      go_wp2_with fail
      clear c4
      go_loopw [6, 29] (fun _ u29 wr => ∃ i : Nat, u29 = .int .i64 i ∧ i ≤ kl ∧ Hid ((rs.take i).all (·.nv) = true) ∧ Hid (Grew wo wr)) (fun _ u29 _ => kl - (intOf u29).toNat)
      case atStart => exact ⟨0, rfl, Nat.zero_le _, rfl, HG0.out⟩
      case round =>
        obtain ⟨i, rfl, hi, HA, HGr⟩ := hrel
        clear HG0 HBx
        by_cases hlt : i < kl
        · have s1 : decide ((i : Int) < (kl : Int)) = true := decide_eq_true (by omega)
          have s2 : decide (i < kl) = true := decide_eq_true hlt
          obtain ⟨kq, hnq, hvq⟩ := (HKs.out i hlt).value
          obtain ⟨h2, hget⟩ := HRg.out i hlt
          obtain ⟨her, hnr⟩ := hKn.out i hlt
          have hil : i < rs.length := h2
          obtain ⟨r, hr⟩ : ∃ r, p.kids.getD i Pat.zero = r := ⟨_, rfl⟩
          rw [hr] at hnq hvq hget her hnr
          clear hr
          obtain ⟨ra, rc, ekq, _⟩ := hvq.kids.len
          subst ekq
          have HC : Hid (Calls Tryd.prog 16 #[.agg (r.cells (.slice ra r.kids.length rc))] (wr.alloc (.cells (r.cells (.slice ra r.kids.length rc)) 24)) fun e w' => e = .returned (.bool (refP r).nv) ∧ Hid (Grew wo w')) :=
            (IH.out _ r _ (hvq.kept (HGr.out.trans ((Grew.refl wr).alloc _))) her hnr).mono fun e w' ⟨h1, h2⟩ => ⟨h1, (HGr.out.trans ((Grew.refl wr).alloc _)).trans h2⟩
          obtain ⟨k0, k1, k2, k3, k4, _, _, _, _⟩ := hnq.kept HGr.out
          unfold Pat.cells at HC
          obtain ⟨rk, hrk⟩ : ∃ rk, r.kids.length = rk := ⟨_, rfl⟩
          rw [hrk] at HC k4
          obtain ⟨v, hv⟩ : ∃ v, (refP r).nv = v := ⟨_, rfl⟩
          rw [hv] at HC
          cases v with
          | false =>
            have HF : Hid (rs.all (·.nv) = false) := allR_hit Rf.nv hil (by rw [hget]; exact hv)
            clear hnq hvq hrk hv hget her hnr hil
            go_wp2_with fail
            refine HC.out.mono ?_; rintro e w2 ⟨rfl, G2⟩
            go_wp2_with fail
            go_ret
            rw [HF.out]
            exact ⟨rfl, G2.out⟩
          | true =>
            have HF : Hid ((rs.take (i + 1)).all (·.nv) = true) := allR_take Rf.nv hil HA.out (by rw [hget]; exact hv)
            clear hnq hvq hrk hv hget her hnr hil
            go_wp2_with fail
            refine HC.out.mono ?_; rintro e w2 ⟨rfl, G2⟩
            go_wp2_with fail
            go_roundw
            case rel => exact ⟨i + 1, by go_num, by omega, HF, G2.out⟩
            case measure => simp [intOf]; omega
        · obtain rfl : i = kl := by omega
          have s1 : decide ((i : Int) < (i : Int)) = false := decide_eq_false (by omega)
          have s2 : decide (i < i) = false := decide_eq_false (by omega)
          have HF : Hid (rs.all (·.nv) = true) := by have h := HA.out; rw [← HRl.out, List.take_length] at h; exact h
          go_wp2_with fail
          go_ret
          rw [HF.out]
          exact ⟨rfl, HGr.out⟩
    by_cases k21 : kk = 21
    · subst k21
      have HV : Hid ((refK 21 p.text p.n rs).nv = (rs.getD 0 rf0).nv) := rfl
      rw [HV.out]
      obtain rfl := honly (by omega)
      rcases HK.out with hk0 | ⟨b', o', rfl, hk0, hk1, hk2, hks⟩
      · omega
      have HKs := hidd hks
      unfold maxLen at hk2
      have c4 := (HBx.out _ (Grew.refl _)).2.2.2.2
      have hlt : 0 < 1 := Nat.succ_pos _
      obtain ⟨i, hi0⟩ : ∃ i : Nat, i = 0 := ⟨_, rfl⟩
      rw [← hi0] at hlt
      clear hmany honly hks
      obtain ⟨kq, hnq, hvq⟩ := (HKs.out i hlt).value
      obtain ⟨h2, hget⟩ := HRg.out i hlt
      obtain ⟨her, hnr⟩ := hKn.out i hlt
      have hil : i < rs.length := h2
      obtain ⟨r, hr⟩ : ∃ r, p.kids.getD i Pat.zero = r := ⟨_, rfl⟩
      rw [hr] at hnq hvq hget her hnr
      clear hr
      obtain ⟨ra, rc, ekq, _⟩ := hvq.kids.len
      subst ekq
      have HC : Hid (Calls Tryd.prog 16 #[.agg (r.cells (.slice ra r.kids.length rc))] (wo.alloc (.cells #[.int .i64 21, .string p.text, .int .i64 p.n, .string p.name, .slice (some ⟨b', o', none⟩) 1 kc] 24)) fun e w' => e = .returned (.bool (rs.getD 0 rf0).nv) ∧ Hid (Grew wo w')) :=
        (IH.out _ r _ (hvq.kept HG0.out) her hnr).mono fun e w' ⟨h1, h2⟩ => ⟨by rw [h1, ← hget, ← hi0, List.getD_eq_getElem?_getD, List.getElem?_eq_getElem hil]; rfl, HG0.out.trans h2⟩
      subst hi0
      obtain ⟨k0, k1, k2, k3, k4, _, _, _, _⟩ := hnq.kept HG0.out
      unfold Pat.cells at HC
      obtain ⟨rk, hrk⟩ : ∃ rk, r.kids.length = rk := ⟨_, rfl⟩
      rw [hrk] at HC k4
      obtain ⟨v, hv⟩ : ∃ v, (rs.getD 0 rf0).nv = v := ⟨_, rfl⟩
      rw [hv] at HC ⊢
      rw [Nat.zero_mul, Nat.add_zero] at k0 k1 k2 k3 k4
      clear hnq hvq hrk hv hget her hnr hil
      go_enter Tryd.func16, Tryd.ntmps16
      go_wp2_with fail
      refine HC.out.mono ?_; rintro e w2 ⟨rfl, G2⟩
      go_wp2_with fail
      go_ret
      exact ⟨rfl, G2.out⟩
    by_cases k22 : kk = 22
    · subst k22
      have HV : Hid ((refK 22 p.text p.n rs).nv = (rs.getD 0 rf0).nv) := rfl
      rw [HV.out]
      obtain rfl := honly (by omega)
      rcases HK.out with hk0 | ⟨b', o', rfl, hk0, hk1, hk2, hks⟩
      · omega
      have HKs := hidd hks
      unfold maxLen at hk2
      have c4 := (HBx.out _ (Grew.refl _)).2.2.2.2
      have hlt : 0 < 1 := Nat.succ_pos _
      obtain ⟨i, hi0⟩ : ∃ i : Nat, i = 0 := ⟨_, rfl⟩
      rw [← hi0] at hlt
      clear hmany honly hks
      obtain ⟨kq, hnq, hvq⟩ := (HKs.out i hlt).value
      obtain ⟨h2, hget⟩ := HRg.out i hlt
      obtain ⟨her, hnr⟩ := hKn.out i hlt
      have hil : i < rs.length := h2
      obtain ⟨r, hr⟩ : ∃ r, p.kids.getD i Pat.zero = r := ⟨_, rfl⟩
      rw [hr] at hnq hvq hget her hnr
      clear hr
      obtain ⟨ra, rc, ekq, _⟩ := hvq.kids.len
      subst ekq
      have HC : Hid (Calls Tryd.prog 16 #[.agg (r.cells (.slice ra r.kids.length rc))] (wo.alloc (.cells #[.int .i64 22, .string p.text, .int .i64 p.n, .string p.name, .slice (some ⟨b', o', none⟩) 1 kc] 24)) fun e w' => e = .returned (.bool (rs.getD 0 rf0).nv) ∧ Hid (Grew wo w')) :=
        (IH.out _ r _ (hvq.kept HG0.out) her hnr).mono fun e w' ⟨h1, h2⟩ => ⟨by rw [h1, ← hget, ← hi0, List.getD_eq_getElem?_getD, List.getElem?_eq_getElem hil]; rfl, HG0.out.trans h2⟩
      subst hi0
      obtain ⟨k0, k1, k2, k3, k4, _, _, _, _⟩ := hnq.kept HG0.out
      unfold Pat.cells at HC
      obtain ⟨rk, hrk⟩ : ∃ rk, r.kids.length = rk := ⟨_, rfl⟩
      rw [hrk] at HC k4
      obtain ⟨v, hv⟩ : ∃ v, (rs.getD 0 rf0).nv = v := ⟨_, rfl⟩
      rw [hv] at HC ⊢
      rw [Nat.zero_mul, Nat.add_zero] at k0 k1 k2 k3 k4
      clear hnq hvq hrk hv hget her hnr hil
      go_enter Tryd.func16, Tryd.ntmps16
      go_wp2_with fail
      refine HC.out.mono ?_; rintro e w2 ⟨rfl, G2⟩
      go_wp2_with fail
      go_ret
      exact ⟨rfl, G2.out⟩
    have HV : Hid ((refK kk p.text p.n rs).nv = false) := by show _ = _; unfold refK; simp [k15, k17, k18, k19, k21, k22]
    rw [HV.out]
    have r15 : (kk == 15) = false := beq_eq_false_iff_ne.2 k15
    have r17 : (kk == 17) = false := beq_eq_false_iff_ne.2 k17
    have r18 : (kk == 18) = false := beq_eq_false_iff_ne.2 k18
    have r19 : (kk == 19) = false := beq_eq_false_iff_ne.2 k19
    have r21 : (kk == 21) = false := beq_eq_false_iff_ne.2 k21
    have r22 : (kk == 22) = false := beq_eq_false_iff_ne.2 k22
    clear hmany honly k15 k17 k18 k19 k21 k22
    go_enter Tryd.func16, Tryd.ntmps16
    go_wp2_with fail
    go_ret
    exact ⟨rfl, HG0.out⟩
end Go.Proofs.YtglfdfeideeeaaaDoor
