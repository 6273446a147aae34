/- The document's Least, at every right pattern of at most 4096 nodes. -/
import Derived.Test.YtglfdfeideeeaaaDoorT6C
namespace Go.Proofs.YtglfdfeideeeaaaDoor
open Go.RowKit
set_option linter.unusedVariables false
structure RfB (r : Rf) (N : Nat) : Prop where
  l0 : -(N : Int) ≤ r.ls
  l1 : r.ls ≤ 65537
  m0 : -1 ≤ r.ms
  m1 : r.ms ≤ 65536
theorem bestR_mem : ∀ (l : List Rf) (b : Int), bestR b l = b ∨ ∃ r ∈ l, bestR b l = r.ls
  | [], b => Or.inl rfl
  | r :: l, b => by
    rw [bestR]
    rcases bestR_mem l (if r.nv = false ∧ (b < 0 ∨ r.ls < b) then r.ls else b) with h | ⟨x, hx, h⟩
    · rw [h]
      split
      · exact Or.inr ⟨r, by simp, rfl⟩
      · exact Or.inl rfl
    · exact Or.inr ⟨x, by simp [hx], h⟩
theorem mostR_bound (alt : Bool) : ∀ (l : List Rf) (n : Int), 0 ≤ n → n ≤ 65536 → -1 ≤ mostR alt n l ∧ mostR alt n l ≤ 65536
  | [], n, h0, h1 => by rw [mostR]; omega
  | r :: l, n, h0, h1 => by
    rw [mostR]
    refine iteInduction (motive := fun (x : Int) => -1 ≤ x ∧ x ≤ 65536) (fun _ => mostR_bound alt l n h0 h1) (fun _ => ?_)
    refine iteInduction (motive := fun (x : Int) => -1 ≤ x ∧ x ≤ 65536) (fun _ => by omega) (fun h2 => ?_)
    refine iteInduction (motive := fun (x : Int) => -1 ≤ x ∧ x ≤ 65536) (fun _ => by omega) (fun h3 => ?_)
    refine mostR_bound alt l _ ?_ (by omega)
    cases alt with
    | true => show (0 : Int) ≤ if n < r.ms then r.ms else n; split <;> omega
    | false => show (0 : Int) ≤ n + r.ms; omega
mutual
theorem refP_bound : ∀ (p : Pat), errW p = 0 → nodesP p ≤ 4096 → RfB (refP p) (nodesP p)
  | .mk k t n m l, he, hB => by
    have hok := ((errW_iff _).1 he).1
    have hkr := ((errW_iff _).1 he).2
    have hN : nodesP (.mk k t n m l) = 1 + nodesL l := by rw [nodesP]
    have hl : ∀ r ∈ refL l, RfB r (nodesL l) := refL_bound l hkr (by omega)
    have hsum := sumR_bound l hkr (by omega)
    have h0 : RfB ((refL l).getD 0 rf0) (nodesL l) := by
      cases hr : refL l with
      | nil => exact ⟨by show -(nodesL l : Int) ≤ 0; omega, by show (0 : Int) ≤ 65537; omega, by show (-1 : Int) ≤ 0; omega, by show (0 : Int) ≤ 65536; omega⟩
      | cons r rs => exact hl r (by rw [hr]; simp)
    have hlit : k = 1 → t.size ≤ 65536 := hok.lit
    have hnum : k = 2 ∨ k = 8 ∨ k = 9 ∨ k = 10 ∨ k = 11 → 0 ≤ n ∧ n ≤ 65536 := hok.num
    rw [refP]
    refine ⟨?_, ?_, ?_, ?_⟩
    · rw [hN]
      show _ ≤ (if k = 1 then (t.size : Int) else _)
      refine iteInduction (motive := fun (x : Int) => -((1 + nodesL l : Nat) : Int) ≤ x) (fun _ => by omega) (fun _ => iteInduction (motive := fun (x : Int) => -((1 + nodesL l : Nat) : Int) ≤ x) (fun h => by have := (hnum (Or.inl h)).1; have : 0 ≤ n := this; omega) (fun _ => ?_))
      refine iteInduction (motive := fun (x : Int) => -((1 + nodesL l : Nat) : Int) ≤ x) (fun _ => by omega) (fun _ => iteInduction (motive := fun (x : Int) => -((1 + nodesL l : Nat) : Int) ≤ x) (fun _ => by have := h0.l0; omega) (fun _ => ?_))
      refine iteInduction (motive := fun (x : Int) => -((1 + nodesL l : Nat) : Int) ≤ x) (fun _ => by split <;> omega) (fun _ => iteInduction (motive := fun (x : Int) => -((1 + nodesL l : Nat) : Int) ≤ x) (fun _ => ?_) (fun _ => by omega))
      rcases bestR_mem (refL l) (-1) with h | ⟨r, hr, h⟩
      · rw [h]; omega
      · rw [h]; have := (hl r hr).l0; omega
    · show (if k = 1 then (t.size : Int) else _) ≤ _
      refine iteInduction (motive := fun (x : Int) => x ≤ 65537) (fun h => by have := hlit h; have : t.size ≤ 65536 := this; omega) (fun _ => iteInduction (motive := fun (x : Int) => x ≤ 65537) (fun h => by have := (hnum (Or.inl h)).2; have : n ≤ 65536 := this; omega) (fun _ => ?_))
      refine iteInduction (motive := fun (x : Int) => x ≤ 65537) (fun _ => by omega) (fun _ => iteInduction (motive := fun (x : Int) => x ≤ 65537) (fun _ => h0.l1) (fun _ => ?_))
      refine iteInduction (motive := fun (x : Int) => x ≤ 65537) (fun _ => by split <;> omega) (fun _ => iteInduction (motive := fun (x : Int) => x ≤ 65537) (fun _ => ?_) (fun _ => by omega))
      rcases bestR_mem (refL l) (-1) with h | ⟨r, hr, h⟩
      · rw [h]; omega
      · rw [h]; exact (hl r hr).l1
    · show _ ≤ (if k = 1 then (t.size : Int) else _)
      refine iteInduction (motive := fun (x : Int) => -1 ≤ x) (fun _ => by omega) (fun _ => iteInduction (motive := fun (x : Int) => -1 ≤ x) (fun h => by have := (hnum (Or.inl h)).1; have : 0 ≤ n := this; omega) (fun _ => ?_))
      refine iteInduction (motive := fun (x : Int) => -1 ≤ x) (fun _ => by omega) (fun _ => iteInduction (motive := fun (x : Int) => -1 ≤ x) (fun _ => by omega) (fun _ => ?_))
      refine iteInduction (motive := fun (x : Int) => -1 ≤ x) (fun _ => h0.m0) (fun _ => iteInduction (motive := fun (x : Int) => -1 ≤ x) (fun _ => by split <;> omega) (fun _ => ?_))
      exact iteInduction (motive := fun (x : Int) => -1 ≤ x) (fun _ => (mostR_bound _ _ _ (by omega) (by omega)).1) (fun _ => iteInduction (motive := fun (x : Int) => -1 ≤ x) (fun _ => (mostR_bound _ _ _ (by omega) (by omega)).1) (fun _ => by omega))
    · show (if k = 1 then (t.size : Int) else _) ≤ _
      refine iteInduction (motive := fun (x : Int) => x ≤ 65536) (fun h => by have := hlit h; have : t.size ≤ 65536 := this; omega) (fun _ => iteInduction (motive := fun (x : Int) => x ≤ 65536) (fun h => by have := (hnum (Or.inl h)).2; have : n ≤ 65536 := this; omega) (fun _ => ?_))
      refine iteInduction (motive := fun (x : Int) => x ≤ 65536) (fun _ => by omega) (fun _ => iteInduction (motive := fun (x : Int) => x ≤ 65536) (fun _ => by omega) (fun _ => ?_))
      refine iteInduction (motive := fun (x : Int) => x ≤ 65536) (fun _ => h0.m1) (fun _ => iteInduction (motive := fun (x : Int) => x ≤ 65536) (fun _ => by split <;> omega) (fun _ => ?_))
      exact iteInduction (motive := fun (x : Int) => x ≤ 65536) (fun _ => (mostR_bound _ _ _ (by omega) (by omega)).2) (fun _ => iteInduction (motive := fun (x : Int) => x ≤ 65536) (fun _ => (mostR_bound _ _ _ (by omega) (by omega)).2) (fun _ => by omega))
theorem refL_bound : ∀ (l : List Pat), (∀ q ∈ l, errW q = 0) → nodesL l ≤ 4096 → ∀ r ∈ refL l, RfB r (nodesL l)
  | [], _, _, r, hr => by simp [refL] at hr
  | p :: l, he, hB, r, hr => by
    rw [nodesL] at hB ⊢
    rw [refL, List.mem_cons] at hr
    rcases hr with rfl | hr
    · have h := refP_bound p (he p (by simp)) (by omega)
      exact ⟨by have := h.l0; omega, h.l1, h.m0, h.m1⟩
    · have h := refL_bound l (fun q hq => he q (by simp [hq])) (by omega) r hr
      exact ⟨by have := h.l0; omega, h.l1, h.m0, h.m1⟩
theorem sumR_bound : ∀ (l : List Pat), (∀ q ∈ l, errW q = 0) → nodesL l ≤ 4096 → -(nodesL l : Int) ≤ sumR (refL l)
  | [], _, _ => by simp [refL, sumR, nodesL]
  | p :: l, he, hB => by
    rw [nodesL] at hB ⊢
    rw [refL, sumR]
    have h := (refP_bound p (he p (by simp)) (by omega)).l0
    have := sumR_bound l (fun q hq => he q (by simp [hq])) (by omega)
    omega
end
theorem refs_ok {p : Pat} (he : errW p = 0) (hB : nodesP p ≤ 4096) : ∀ i, i < p.kids.length → -4096 ≤ (refP (p.kids.getD i Pat.zero)).ls ∧ (refP (p.kids.getD i Pat.zero)).ls ≤ 65537 := fun i hi => by
  have hm : p.kids.getD i Pat.zero ∈ p.kids := by rw [List.getD_eq_getElem?_getD, List.getElem?_eq_getElem hi]; exact List.getElem_mem hi
  have hn := nodesL_mem hm
  rw [nodesP_eq] at hB
  have h := refP_bound _ (right_kids p he _ hm) (by omega)
  exact ⟨by have := h.l0; omega, h.l1⟩
theorem refs_most {p : Pat} (he : errW p = 0) (hB : nodesP p ≤ 4096) : ∀ i, i < p.kids.length → -1 ≤ (refP (p.kids.getD i Pat.zero)).ms ∧ (refP (p.kids.getD i Pat.zero)).ms ≤ 65536 := fun i hi => by
  have hm : p.kids.getD i Pat.zero ∈ p.kids := by rw [List.getD_eq_getElem?_getD, List.getElem?_eq_getElem hi]; exact List.getElem_mem hi
  have hn := nodesL_mem hm
  rw [nodesP_eq] at hB
  have h := refP_bound _ (right_kids p he _ hm) (by omega)
  exact ⟨h.m0, h.m1⟩
set_option maxRecDepth 100000 in
set_option maxHeartbeats 16000000 in
theorem LeastR_any : ∀ (N : Nat) (kv : Value) (p : Pat) (w : World), PatV w kv p → errW p = 0 → nodesP p ≤ N → nodesP p ≤ 4096 →
    Calls Tryd.prog 17 #[.agg (p.cells kv)] w fun e w' => e = .returned (.int .i64 (refP p).ls) ∧ Grew w w'
  | 0 => fun kv p w hp he hN hB => by have := nodesP_pos p; omega
  | N + 1 => fun kv p w hp he hN hB => by
    have IH := hidd (LeastR_any N)
    obtain ⟨ka, kc, ekv, hkl, hkids⟩ := kids_ok hp he
    subst ekv
    have HOk : Hid (∀ i, i < p.kids.length → -4096 ≤ (refP (p.kids.getD i Pat.zero)).ls ∧ (refP (p.kids.getD i Pat.zero)).ls ≤ 65537) := refs_ok he hB
    have hok := ((errW_iff p).1 he).1
    have HX := hidd (refP_eq p)
    have HBx := hidd (pat_box w p (.slice ka p.kids.length kc))
    have HG0 : Hid (Grew w (w.alloc (.cells (p.cells (.slice ka p.kids.length kc)) 24))) := (Grew.refl w).alloc _
    have HRg : Hid (∀ i, i < p.kids.length → ∃ h2 : i < (refL p.kids).length, (refL p.kids)[i]'h2 = refP (p.kids.getD i Pat.zero)) := fun i h => refL_get h
    have HRl : Hid ((refL p.kids).length = p.kids.length) := refL_length _
    obtain ⟨kk, hkk⟩ : ∃ kk, p.kind = kk := ⟨_, rfl⟩
    obtain ⟨kl, hkl0⟩ : ∃ kl, p.kids.length = kl := ⟨_, rfl⟩
    obtain ⟨rs, hrs⟩ : ∃ rs, refL p.kids = rs := ⟨_, rfl⟩
    have hmany := hok.many
    have honly := hok.only
    have hht := hp.ht
    have hKn : Hid (∀ i, i < kl → errW (p.kids.getD i Pat.zero) = 0 ∧ nodesP (p.kids.getD i Pat.zero) ≤ N ∧ nodesP (p.kids.getD i Pat.zero) ≤ 4096) := by
      rw [Hid, ← hkl0]
      intro i hi
      rcases hkids with h | ⟨b, o, _, _, _, _, hko⟩
      · omega
      · have := hko.nodes i hi
        exact ⟨hko.right i hi, by omega, by omega⟩
    have HK : Hid (kl = 0 ∨ ∃ b o, ka = some ⟨b, o, none⟩ ∧ 0 < kl ∧ kl ≤ kc ∧ kc ≤ maxLen ∧ ∀ i, i < kl → PatAt w b (o + i * 5) (p.kids.getD i Pat.zero)) := by
      rw [Hid, ← hkl0]
      rcases hkids with h | ⟨b, o, h1, h2, h3, h4, hko⟩
      · exact Or.inl h
      · exact Or.inr ⟨b, o, h1, h2, h3, h4, hko.at_⟩
    rw [hkk] at hmany honly HX
    rw [hkl0] at HOk hmany honly HRg HRl HG0 HBx hkl
    rw [hrs] at HX HRg HRl
    unfold Pat.cells at HG0 HBx ⊢
    rw [hkk] at HG0 HBx ⊢
    rw [hkl0] at ⊢
    rw [HX.out]
    clear hkk hkl0 hrs hok hkids hp he hN hB HX
    obtain ⟨wo, rfl⟩ : ∃ wo, wo = w := ⟨_, rfl⟩
    by_cases k1 : kk = 1
    · subst k1
      have HV : Hid ((refK 1 p.text p.n rs).ls = p.text.size) := rfl
      rw [HV.out]
      have c1 := (HBx.out _ (Grew.refl _)).2.1
      unfold maxLen at hht
      clear hmany honly
      go_enter Tryd.func17, Tryd.ntmps17
      go_wp2_with fail
      go_ret
      exact ⟨rfl, HG0.out⟩
    by_cases k2 : kk = 2
    · subst k2
      have HV : Hid ((refK 2 p.text p.n rs).ls = p.n) := rfl
      rw [HV.out]
      have c2 := (HBx.out _ (Grew.refl _)).2.2.1
      clear hmany honly
      go_enter Tryd.func17, Tryd.ntmps17
      go_wp2_with fail
      go_ret
      exact ⟨rfl, HG0.out⟩
    by_cases k3 : kk = 3
    · subst k3
      have HV : Hid ((refK 3 p.text p.n rs).ls = 1) := rfl
      rw [HV.out]
      clear hmany honly
      go_enter Tryd.func17, Tryd.ntmps17
      go_wp2_with fail
      go_ret
      exact ⟨rfl, HG0.out⟩
    by_cases k4 : kk = 4
    · subst k4
      have HV : Hid ((refK 4 p.text p.n rs).ls = 1) := rfl
      rw [HV.out]
      clear hmany honly
      go_enter Tryd.func17, Tryd.ntmps17
      go_wp2_with fail
      go_ret
      exact ⟨rfl, HG0.out⟩
    by_cases k5 : kk = 5
    · subst k5
      have HV : Hid ((refK 5 p.text p.n rs).ls = 1) := rfl
      rw [HV.out]
      clear hmany honly
      go_enter Tryd.func17, Tryd.ntmps17
      go_wp2_with fail
      go_ret
      exact ⟨rfl, HG0.out⟩
    by_cases k14 : kk = 14
    · subst k14
      have HV : Hid ((refK 14 p.text p.n rs).ls = 1) := rfl
      rw [HV.out]
      clear hmany honly
      go_enter Tryd.func17, Tryd.ntmps17
      go_wp2_with fail
      go_ret
      exact ⟨rfl, HG0.out⟩
    by_cases k21 : kk = 21
    · subst k21
      have HV : Hid ((refK 21 p.text p.n rs).ls = (rs.getD 0 rf0).ls) := rfl
      rw [HV.out]
      obtain rfl := honly (by omega)
      rcases HK.out with hk0 | ⟨b', o', rfl, hk0, hk1, hk2, hks⟩
      · omega
      have HKs := hidd hks
      unfold maxLen at hk2
      have c4 := (HBx.out _ (Grew.refl _)).2.2.2.2
      have hlt : 0 < 1 := Nat.succ_pos _
      obtain ⟨i, hi0⟩ : ∃ i : Nat, i = 0 := ⟨_, rfl⟩
      rw [← hi0] at hlt
      clear hmany honly hks
      obtain ⟨kq, hnq, hvq⟩ := (HKs.out i hlt).value
      obtain ⟨hls0, hls1⟩ := HOk.out i hlt
      obtain ⟨h2, hget⟩ := HRg.out i hlt
      obtain ⟨her, hnr, hbr⟩ := hKn.out i hlt
      have hil : i < rs.length := h2
      obtain ⟨r, hr⟩ : ∃ r, p.kids.getD i Pat.zero = r := ⟨_, rfl⟩
      rw [hr] at hnq hvq hget her hnr hbr hls0 hls1
      clear hr
      obtain ⟨ra, rc, ekq, _⟩ := hvq.kids.len
      subst ekq
      have HC : Hid (Calls Tryd.prog 17 #[.agg (r.cells (.slice ra r.kids.length rc))] (wo.alloc (.cells #[.int .i64 21, .string p.text, .int .i64 p.n, .string p.name, .slice (some ⟨b', o', none⟩) 1 kc] 24)) fun e w' => e = .returned (.int .i64 (rs.getD 0 rf0).ls) ∧ Hid (Grew wo w')) :=
        (IH.out _ r _ (hvq.kept HG0.out) her hnr hbr).mono fun e w' ⟨h1, h2⟩ => ⟨by rw [h1, ← hget, ← hi0, List.getD_eq_getElem?_getD, List.getElem?_eq_getElem hil]; rfl, HG0.out.trans h2⟩
      subst hi0
      obtain ⟨k0, k1, k2, k3, k4, _, _, _, _⟩ := hnq.kept HG0.out
      unfold Pat.cells at HC
      obtain ⟨rk, hrk⟩ : ∃ rk, r.kids.length = rk := ⟨_, rfl⟩
      rw [hrk] at HC k4
      obtain ⟨v, hv⟩ : ∃ v, (rs.getD 0 rf0).ls = v := ⟨_, rfl⟩
      rw [hv] at HC ⊢
      rw [Nat.zero_mul, Nat.add_zero] at k0 k1 k2 k3 k4
      clear hnq hvq hrk hv hget her hnr hil hbr hls0 hls1
      go_enter Tryd.func17, Tryd.ntmps17
      go_wp2_with fail
      refine HC.out.mono ?_; rintro e w2 ⟨rfl, G2⟩
      go_wp2_with fail
      go_ret
      exact ⟨rfl, G2.out⟩
    by_cases k22 : kk = 22
    · subst k22
      have HV : Hid ((refK 22 p.text p.n rs).ls = (rs.getD 0 rf0).ls) := rfl
      rw [HV.out]
      obtain rfl := honly (by omega)
      rcases HK.out with hk0 | ⟨b', o', rfl, hk0, hk1, hk2, hks⟩
      · omega
      have HKs := hidd hks
      unfold maxLen at hk2
      have c4 := (HBx.out _ (Grew.refl _)).2.2.2.2
      have hlt : 0 < 1 := Nat.succ_pos _
      obtain ⟨i, hi0⟩ : ∃ i : Nat, i = 0 := ⟨_, rfl⟩
      rw [← hi0] at hlt
      clear hmany honly hks
      obtain ⟨kq, hnq, hvq⟩ := (HKs.out i hlt).value
      obtain ⟨hls0, hls1⟩ := HOk.out i hlt
      obtain ⟨h2, hget⟩ := HRg.out i hlt
      obtain ⟨her, hnr, hbr⟩ := hKn.out i hlt
      have hil : i < rs.length := h2
      obtain ⟨r, hr⟩ : ∃ r, p.kids.getD i Pat.zero = r := ⟨_, rfl⟩
      rw [hr] at hnq hvq hget her hnr hbr hls0 hls1
      clear hr
      obtain ⟨ra, rc, ekq, _⟩ := hvq.kids.len
      subst ekq
      have HC : Hid (Calls Tryd.prog 17 #[.agg (r.cells (.slice ra r.kids.length rc))] (wo.alloc (.cells #[.int .i64 22, .string p.text, .int .i64 p.n, .string p.name, .slice (some ⟨b', o', none⟩) 1 kc] 24)) fun e w' => e = .returned (.int .i64 (rs.getD 0 rf0).ls) ∧ Hid (Grew wo w')) :=
        (IH.out _ r _ (hvq.kept HG0.out) her hnr hbr).mono fun e w' ⟨h1, h2⟩ => ⟨by rw [h1, ← hget, ← hi0, List.getD_eq_getElem?_getD, List.getElem?_eq_getElem hil]; rfl, HG0.out.trans h2⟩
      subst hi0
      obtain ⟨k0, k1, k2, k3, k4, _, _, _, _⟩ := hnq.kept HG0.out
      unfold Pat.cells at HC
      obtain ⟨rk, hrk⟩ : ∃ rk, r.kids.length = rk := ⟨_, rfl⟩
      rw [hrk] at HC k4
      obtain ⟨v, hv⟩ : ∃ v, (rs.getD 0 rf0).ls = v := ⟨_, rfl⟩
      rw [hv] at HC ⊢
      rw [Nat.zero_mul, Nat.add_zero] at k0 k1 k2 k3 k4
      clear hnq hvq hrk hv hget her hnr hil hbr hls0 hls1
      go_enter Tryd.func17, Tryd.ntmps17
      go_wp2_with fail
      refine HC.out.mono ?_; rintro e w2 ⟨rfl, G2⟩
      go_wp2_with fail
      go_ret
      exact ⟨rfl, G2.out⟩
    by_cases k18 : kk = 18
    · subst k18
      have HV : Hid ((refK 18 p.text p.n rs).ls = if 65537 < sumR rs then 65537 else sumR rs) := rfl
      rw [HV.out]
      have hm2 := hmany (by omega)
      rcases HK.out with hk0 | ⟨b', o', rfl, hk0, hk1, hk2, hks⟩
      · omega
      have HKs := hidd hks
      unfold maxLen at hk2
      have hm4 := hm2.2
      have c4 := (HBx.out _ (Grew.refl _)).2.2.2.2
      clear hmany honly hks hm2
      obtain ⟨sv, hsv⟩ : ∃ sv, (if 65537 < sumR rs then 65537 else sumR rs) = sv := ⟨_, rfl⟩
      rw [hsv]
      have HSv := hidd hsv
      clear hsv HV
      go_enter Tryd.func17, Tryd.ntmps17
      go_wp2_with fail
      clear c4
      go_loopw [3, 5, 39] (fun u3 _ u39 wr => ∃ (i : Nat) (n : Int), u39 = .int .i64 i ∧ u3 = .int .i64 n ∧ i ≤ kl ∧ -4096 * (i : Int) ≤ n ∧ n ≤ 65537 * (i : Int) ∧ Hid (sumR rs = n + sumR (rs.drop i)) ∧ Hid (Grew wo wr)) (fun _ _ u39 _ => kl - (intOf u39).toNat)
      case atStart => exact ⟨0, 0, rfl, rfl, Nat.zero_le _, by omega, by omega, by rw [Hid, List.drop_zero]; omega, HG0.out⟩
      case round =>
        obtain ⟨i, n, rfl, rfl, hi, hn0, hn1, HA, HGr⟩ := hrel
        clear HG0 HBx
        by_cases hlt : i < kl
        · have s1 : decide ((i : Int) < (kl : Int)) = true := decide_eq_true (by omega)
          have s2 : decide (i < kl) = true := decide_eq_true hlt
          obtain ⟨kq, hnq, hvq⟩ := (HKs.out i hlt).value
          obtain ⟨hls0, hls1⟩ := HOk.out i hlt
          obtain ⟨h2, hget⟩ := HRg.out i hlt
          obtain ⟨her, hnr, hbr⟩ := hKn.out i hlt
          have hil : i < rs.length := h2
          obtain ⟨r, hr⟩ : ∃ r, p.kids.getD i Pat.zero = r := ⟨_, rfl⟩
          rw [hr] at hnq hvq hget her hnr hbr hls0 hls1
          clear hr
          obtain ⟨ra, rc, ekq, _⟩ := hvq.kids.len
          subst ekq
          have hg3 : Grew wr (wr.alloc (.cells (r.cells (.slice ra r.kids.length rc)) 24)) := (Grew.refl wr).alloc _
          have HC : Hid (Calls Tryd.prog 17 #[.agg (r.cells (.slice ra r.kids.length rc))] (wr.alloc (.cells (r.cells (.slice ra r.kids.length rc)) 24)) fun e w' => e = .returned (.int .i64 (refP r).ls) ∧ Hid (Grew wo w' ∧ Grew (wr.alloc (.cells (r.cells (.slice ra r.kids.length rc)) 24)) w')) :=
            (IH.out _ r _ (hvq.kept (HGr.out.trans hg3)) her hnr hbr).mono fun e w' ⟨h1, h2⟩ => ⟨h1, (HGr.out.trans hg3).trans h2, h2⟩
          have HDr : Hid (rs.drop i = refP r :: rs.drop (i + 1)) := by rw [Hid, List.drop_eq_getElem_cons hil, hget]
          obtain ⟨k0, k1, k2, k3, k4, _, _, _, _⟩ := hnq.kept HGr.out
          unfold Pat.cells at HC
          obtain ⟨rk, hrk⟩ : ∃ rk, r.kids.length = rk := ⟨_, rfl⟩
          rw [hrk] at HC k4
          obtain ⟨v, hv⟩ : ∃ v, (refP r).ls = v := ⟨_, rfl⟩
          rw [hv] at HC hls0 hls1
          have HS : Hid (sumR rs = (n + v) + sumR (rs.drop (i + 1))) := by
            have h := HA.out
            rw [HDr.out, sumR, hv] at h
            rw [Hid, h]; omega
          clear hnq hvq hrk hv hget her hnr hil hbr hg3
          go_wp2_with fail
          refine HC.out.mono ?_; rintro e w2 ⟨rfl, G2⟩
          go_wp2_with fail
          go_roundw
          case rel => exact ⟨i + 1, n + v, by go_num, by go_num, by omega, by omega, by omega, HS, G2.out.1⟩
          case measure => simp [intOf]; omega
        · obtain rfl : i = kl := by omega
          have s1 : decide ((i : Int) < (i : Int)) = false := decide_eq_false (by omega)
          have s2 : decide (i < i) = false := decide_eq_false (by omega)
          have HF : Hid (sumR rs = n) := by
            have h := HA.out
            rw [← HRl.out, List.drop_length, sumR] at h
            rw [Hid, h]; omega
          by_cases hc : 65537 < n
          · have t1 : decide ((65537 : Int) < n) = true := decide_eq_true hc
            go_wp2_with fail
            go_ret
            rw [← HSv.out, HF.out, if_pos (show (65537 : Int) < n by omega)]
            exact ⟨rfl, HGr.out⟩
          · have t1 : decide ((65537 : Int) < n) = false := decide_eq_false hc
            go_wp2_with fail
            go_ret
            rw [← HSv.out, HF.out, if_neg (show ¬ (65537 : Int) < n by omega)]
            exact ⟨rfl, HGr.out⟩
    by_cases k19 : kk = 19
    · subst k19
      have HV : Hid ((refK 19 p.text p.n rs).ls = bestR (-1) rs) := rfl
      rw [HV.out]
      have hm2 := hmany (by omega)
      rcases HK.out with hk0 | ⟨b', o', rfl, hk0, hk1, hk2, hks⟩
      · omega
      have HKs := hidd hks
      unfold maxLen at hk2
      have hm4 := hm2.2
      have c4 := (HBx.out _ (Grew.refl _)).2.2.2.2
      clear hmany honly hks hm2
      go_enter Tryd.func17, Tryd.ntmps17
      go_wp2_with fail
      clear c4
      go_loopw [6, 8, 9, 56] (fun u6 _ _ u56 wr => ∃ (i : Nat) (n : Int), u56 = .int .i64 i ∧ u6 = .int .i64 n ∧ i ≤ kl ∧ -9000 ≤ n ∧ n ≤ 65537 ∧ Hid (bestR (-1) rs = bestR n (rs.drop i)) ∧ Hid (Grew wo wr)) (fun _ _ _ u56 _ => kl - (intOf u56).toNat)
      case atStart => exact ⟨0, -1, rfl, rfl, Nat.zero_le _, by omega, by omega, by rw [Hid, List.drop_zero], HG0.out⟩
      case round =>
        obtain ⟨i, n, rfl, rfl, hi, hn0, hn1, HA, HGr⟩ := hrel
        clear HG0 HBx
        by_cases hlt : i < kl
        · have s1 : decide ((i : Int) < (kl : Int)) = true := decide_eq_true (by omega)
          have s2 : decide (i < kl) = true := decide_eq_true hlt
          obtain ⟨kq, hnq, hvq⟩ := (HKs.out i hlt).value
          obtain ⟨hls0, hls1⟩ := HOk.out i hlt
          obtain ⟨h2, hget⟩ := HRg.out i hlt
          obtain ⟨her, hnr, hbr⟩ := hKn.out i hlt
          have hil : i < rs.length := h2
          obtain ⟨r, hr⟩ : ∃ r, p.kids.getD i Pat.zero = r := ⟨_, rfl⟩
          rw [hr] at hnq hvq hget her hnr hbr hls0 hls1
          clear hr
          obtain ⟨ra, rc, ekq, _⟩ := hvq.kids.len
          subst ekq
          have hg3 : Grew wr (wr.alloc (.cells (r.cells (.slice ra r.kids.length rc)) 24)) := (Grew.refl wr).alloc _
          have HC : Hid (Calls Tryd.prog 17 #[.agg (r.cells (.slice ra r.kids.length rc))] (wr.alloc (.cells (r.cells (.slice ra r.kids.length rc)) 24)) fun e w' => e = .returned (.int .i64 (refP r).ls) ∧ Hid (Grew wo w' ∧ Grew (wr.alloc (.cells (r.cells (.slice ra r.kids.length rc)) 24)) w')) :=
            (IH.out _ r _ (hvq.kept (HGr.out.trans hg3)) her hnr hbr).mono fun e w' ⟨h1, h2⟩ => ⟨h1, (HGr.out.trans hg3).trans h2, h2⟩
          have HDr : Hid (rs.drop i = refP r :: rs.drop (i + 1)) := by rw [Hid, List.drop_eq_getElem_cons hil, hget]
          obtain ⟨k0, k1, k2, k3, k4, _, _, _, _⟩ := hnq.kept HGr.out
          have HN : Hid (∀ w1, Grew (wr.alloc (.cells (r.cells (.slice ra r.kids.length rc)) 24)) w1 → Calls Tryd.prog 16 #[.agg (r.cells (.slice ra r.kids.length rc))] w1 fun e w' => e = .returned (.bool (refP r).nv) ∧ Hid (Grew wo w')) := fun w1 g =>
            (NeverR_any _ _ r w1 (hvq.kept ((HGr.out.trans hg3).trans g)) her (Nat.le_refl _)).mono fun e w' ⟨h1, h2⟩ => ⟨h1, ((HGr.out.trans hg3).trans g).trans h2⟩
          have HBr := hidd (pat_box wr r (.slice ra r.kids.length rc))
          unfold Pat.cells at HC HN HBr
          obtain ⟨rk, hrk⟩ : ∃ rk, r.kids.length = rk := ⟨_, rfl⟩
          rw [hrk] at HC HN HBr k4
          obtain ⟨v, hv⟩ : ∃ v, (refP r).ls = v := ⟨_, rfl⟩
          rw [hv] at HC hls0 hls1
          obtain ⟨nv, hnv⟩ : ∃ nv, (refP r).nv = nv := ⟨_, rfl⟩
          rw [hnv] at HN
          cases nv with
          | true =>
            have HS : Hid (bestR (-1) rs = bestR n (rs.drop (i + 1))) := by rw [Hid, HA.out, HDr.out, bestR_skip hnv]
            clear hnq hvq hrk hv hget her hnr hil hbr hg3 hnv
            go_wp2_with fail
            refine HC.out.mono ?_; rintro e w2 ⟨rfl, G2⟩
            obtain ⟨x0, x1, x2, x3, x4⟩ := HBr.out w2 G2.out.2
            go_wp2_with fail
            refine (HN.out w2 G2.out.2).mono ?_; rintro e w3 ⟨rfl, G3⟩
            go_wp2_with fail
            go_roundw
            case rel => exact ⟨i + 1, n, by go_num, rfl, by omega, hn0, hn1, HS, G3.out⟩
            case measure => simp [intOf]; omega
          | false =>
            have HS : Hid (bestR (-1) rs = bestR (if n < 0 ∨ v < n then v else n) (rs.drop (i + 1))) := by rw [Hid, HA.out, HDr.out, bestR_may hnv, hv]
            clear hnq hvq hrk hv hget her hnr hil hbr hg3 hnv
            have hcs : n < 0 ∨ (¬ n < 0 ∧ v < n) ∨ (¬ n < 0 ∧ ¬ v < n) := by omega
            rcases hcs with hc | ⟨hc, hc2⟩ | ⟨hc, hc2⟩
            · have t1 : decide (n < 0) = true := decide_eq_true hc
              rw [if_pos (Or.inl hc)] at HS
              go_wp2_with fail
              refine HC.out.mono ?_; rintro e w2 ⟨rfl, G2⟩
              obtain ⟨x0, x1, x2, x3, x4⟩ := HBr.out w2 G2.out.2
              go_wp2_with fail
              refine (HN.out w2 G2.out.2).mono ?_; rintro e w3 ⟨rfl, G3⟩
              go_wp2_with fail
              go_roundw
              case rel => exact ⟨i + 1, v, by go_num, rfl, by omega, by omega, by omega, HS, G3.out⟩
              case measure => simp [intOf]; omega
            · have t1 : decide (n < 0) = false := decide_eq_false hc
              have t2 : decide (v < n) = true := decide_eq_true hc2
              rw [if_pos (Or.inr hc2)] at HS
              go_wp2_with fail
              refine HC.out.mono ?_; rintro e w2 ⟨rfl, G2⟩
              obtain ⟨x0, x1, x2, x3, x4⟩ := HBr.out w2 G2.out.2
              go_wp2_with fail
              refine (HN.out w2 G2.out.2).mono ?_; rintro e w3 ⟨rfl, G3⟩
              go_wp2_with fail
              go_roundw
              case rel => exact ⟨i + 1, v, by go_num, rfl, by omega, by omega, by omega, HS, G3.out⟩
              case measure => simp [intOf]; omega
            · have t1 : decide (n < 0) = false := decide_eq_false hc
              have t2 : decide (v < n) = false := decide_eq_false hc2
              rw [if_neg (by omega)] at HS
              go_wp2_with fail
              refine HC.out.mono ?_; rintro e w2 ⟨rfl, G2⟩
              obtain ⟨x0, x1, x2, x3, x4⟩ := HBr.out w2 G2.out.2
              go_wp2_with fail
              refine (HN.out w2 G2.out.2).mono ?_; rintro e w3 ⟨rfl, G3⟩
              go_wp2_with fail
              go_roundw
              case rel => exact ⟨i + 1, n, by go_num, rfl, by omega, hn0, hn1, HS, G3.out⟩
              case measure => simp [intOf]; omega
        · obtain rfl : i = kl := by omega
          have s1 : decide ((i : Int) < (i : Int)) = false := decide_eq_false (by omega)
          have s2 : decide (i < i) = false := decide_eq_false (by omega)
          have HF : Hid (bestR (-1) rs = n) := by
            have h := HA.out
            rw [← HRl.out, List.drop_length, bestR] at h
            exact h
          go_wp2_with fail
          go_ret
          rw [HF.out]
          exact ⟨rfl, HGr.out⟩
    have HV : Hid ((refK kk p.text p.n rs).ls = 0) := by show _ = _; unfold refK; simp [k1, k2, k3, k4, k5, k14, k18, k19, k21, k22]
    rw [HV.out]
    have r1 : (kk == 1) = false := beq_eq_false_iff_ne.2 k1
    have r2 : (kk == 2) = false := beq_eq_false_iff_ne.2 k2
    have r3 : (kk == 3) = false := beq_eq_false_iff_ne.2 k3
    have r4 : (kk == 4) = false := beq_eq_false_iff_ne.2 k4
    have r5 : (kk == 5) = false := beq_eq_false_iff_ne.2 k5
    have r14 : (kk == 14) = false := beq_eq_false_iff_ne.2 k14
    have r18 : (kk == 18) = false := beq_eq_false_iff_ne.2 k18
    have r19 : (kk == 19) = false := beq_eq_false_iff_ne.2 k19
    have r21 : (kk == 21) = false := beq_eq_false_iff_ne.2 k21
    have r22 : (kk == 22) = false := beq_eq_false_iff_ne.2 k22
    clear hmany honly k1 k2 k3 k4 k5 k14 k18 k19 k21 k22
    go_enter Tryd.func17, Tryd.ntmps17
    go_wp2_with fail
    go_ret
    exact ⟨rfl, HG0.out⟩
end Go.Proofs.YtglfdfeideeeaaaDoor
