/- The document's Begins, at every right pattern. -/
import Derived.Test.YtglfdfeideeeaaaDoorT6A
import Derived.Test.YtglfdfeideeeaaaDoorT6C
namespace Go.Proofs.YtglfdfeideeeaaaDoor
open Go.RowKit
set_option linter.unusedVariables false
def begCat : List Bool → List Rf → Bool
  | b :: bs, r :: rs => if b = true then true else if r.nl = true then begCat bs rs else false
  | _, _ => false
def begK (k : Int) (t : ByteArray) (n : Int) (c : UInt8) (bs : List Bool) (rs : List Rf) : Bool :=
  if k = 1 then (match t.data.toList with | x :: _ => x == c | [] => false)
  else if k = 2 then decide (0 < n)
  else if k = 3 ∨ k = 5 then !apartB t ⟨#[c]⟩
  else if k = 4 ∨ k = 6 then apartB t ⟨#[c]⟩
  else if k = 10 ∨ k = 11 ∨ k = 16 ∨ k = 23 ∨ k = 15 ∨ k = 17 then false
  else if k = 14 then c != 41
  else if k = 20 ∨ k = 21 ∨ k = 22 then bs.getD 0 false
  else if k = 18 then begCat bs rs
  else if k = 19 then bs.any (fun b => b)
  else true
mutual
def begP (c : UInt8) : Pat → Bool
  | .mk k t n m l => begK k t n c (begL c l) (refL l)
def begL (c : UInt8) : List Pat → List Bool
  | [] => []
  | p :: l => begP c p :: begL c l
end
theorem begL_map (c : UInt8) : ∀ l : List Pat, begL c l = l.map (begP c)
  | [] => rfl
  | p :: l => by rw [begL, begL_map c l]; rfl
theorem begP_eq (c : UInt8) (p : Pat) : begP c p = begK p.kind p.text p.n c (begL c p.kids) (refL p.kids) := by cases p; rfl
theorem begL_length (c : UInt8) (l : List Pat) : (begL c l).length = l.length := by rw [begL_map, List.length_map]
theorem begL_get {c : UInt8} {p : Pat} {i : Nat} (h : i < p.kids.length) : ∃ h2 : i < (begL c p.kids).length, (begL c p.kids)[i]'h2 = begP c (p.kids.getD i Pat.zero) := by
  refine ⟨by rw [begL_length]; exact h, ?_⟩
  have e : (begL c p.kids)[i]? = some (begP c (p.kids.getD i Pat.zero)) := by rw [begL_map, List.getElem?_map, List.getElem?_eq_getElem h, List.getD_eq_getElem?_getD, List.getElem?_eq_getElem h]; rfl
  have h2 : i < (begL c p.kids).length := by rw [begL_length]; exact h
  rw [List.getElem?_eq_getElem h2] at e
  exact Option.some.inj e
theorem string_c (w : World) (c : UInt8) : (convert 69 9 (.slice (some ⟨w.heap.size, 0, none⟩) 1 1)).run Tryd.prog (w.alloc (.cells #[.int .u8 (c.toNat : Nat)] 5)) = .ok (.string ⟨#[c]⟩) (w.alloc (.cells #[.int .u8 (c.toNat : Nat)] 5)) := by
  refine string_arr [c] rfl (fun _ => .int .u8 (c.toNat : Nat)) (ArrAt.new w _ _ 1 _ fun j hj => ?_) (fun j hj => ?_) 1
  · obtain rfl : j = 0 := by omega
    rfl
  · obtain rfl : j = 0 := by simp at hj; omega
    rfl
theorem beg_lit {t : ByteArray} {c : UInt8} (z : 0 < t.size) : (match t.data.toList with | x :: _ => x == c | [] => false) = (t[0]'z == c) := by
  obtain ⟨⟨l⟩⟩ := t
  cases l with
  | nil => exact absurd z (by show ¬ 0 < 0; omega)
  | cons x l => rfl
set_option maxRecDepth 100000 in
set_option maxHeartbeats 16000000 in
theorem BeginsR_any (c : UInt8) : ∀ (N : Nat) (kv : Value) (p : Pat) (w : World), PatV w kv p → errW p = 0 → nodesP p ≤ N →
    Calls Tryd.prog 20 #[.agg (p.cells kv), .int .u8 (c.toNat : Nat)] w fun e w' => e = .returned (.bool (begP c p)) ∧ Grew w w'
  | 0 => fun kv p w hp he hN => by have := nodesP_pos p; omega
  | N + 1 => fun kv p w hp he hN => by
    have IH := hidd (BeginsR_any c N)
    obtain ⟨ka, kc, ekv, hkl, hkids⟩ := kids_ok hp he
    subst ekv
    have hok := ((errW_iff p).1 he).1
    have HX := hidd (begP_eq c p)
    have HBx := hidd (pat_box w p (.slice ka p.kids.length kc))
    have HG0 : Hid (Grew w (w.alloc (.cells (p.cells (.slice ka p.kids.length kc)) 24))) := (Grew.refl w).alloc _
    have HRg : Hid (∀ i, i < p.kids.length → ∃ h2 : i < (refL p.kids).length, (refL p.kids)[i]'h2 = refP (p.kids.getD i Pat.zero)) := fun i h => refL_get h
    have HRl : Hid ((refL p.kids).length = p.kids.length) := refL_length _
    have HBg : Hid (∀ i, i < p.kids.length → ∃ h2 : i < (begL c p.kids).length, (begL c p.kids)[i]'h2 = begP c (p.kids.getD i Pat.zero)) := fun i h => begL_get h
    have HBl : Hid ((begL c p.kids).length = p.kids.length) := begL_length _ _
    obtain ⟨bs, hbs⟩ : ∃ bs, begL c p.kids = bs := ⟨_, rfl⟩
    obtain ⟨mv, hmv⟩ : ∃ mv, (!apartB p.text ⟨#[c]⟩) = mv := ⟨_, rfl⟩
    have HM : Hid (∀ w1, Calls Tryd.prog 50 #[.string p.text, .string ⟨#[c]⟩] w1 fun e w' => e = .returned (.bool mv) ∧ Grew w1 w') := fun w1 => by
      have h := meets_any p.text ⟨#[c]⟩ w1 hp.ht (by show (1 : Nat) ≤ maxLen; unfold maxLen; omega)
      rw [hmv] at h
      exact h
    have HMv := hidd hmv
    clear hmv
    obtain ⟨kk, hkk⟩ : ∃ kk, p.kind = kk := ⟨_, rfl⟩
    obtain ⟨kl, hkl0⟩ : ∃ kl, p.kids.length = kl := ⟨_, rfl⟩
    obtain ⟨rs, hrs⟩ : ∃ rs, refL p.kids = rs := ⟨_, rfl⟩
    have hmany := hok.many
    have honly := hok.only
    have hht := hp.ht
    have hKn : Hid (∀ i, i < kl → errW (p.kids.getD i Pat.zero) = 0 ∧ nodesP (p.kids.getD i Pat.zero) ≤ N) := by
      rw [Hid, ← hkl0]
      intro i hi
      rcases hkids with h | ⟨b, o, _, _, _, _, hko⟩
      · omega
      · have := hko.nodes i hi
        exact ⟨hko.right i hi, by omega⟩
    have HK : Hid (kl = 0 ∨ ∃ b o, ka = some ⟨b, o, none⟩ ∧ 0 < kl ∧ kl ≤ kc ∧ kc ≤ maxLen ∧ ∀ i, i < kl → PatAt w b (o + i * 5) (p.kids.getD i Pat.zero)) := by
      rw [Hid, ← hkl0]
      rcases hkids with h | ⟨b, o, h1, h2, h3, h4, hko⟩
      · exact Or.inl h
      · exact Or.inr ⟨b, o, h1, h2, h3, h4, hko.at_⟩
    rw [hkk] at hmany honly HX
    rw [hkl0] at HBg HBl hmany honly HRg HRl HG0 HBx hkl
    rw [hrs] at HX HRg HRl
    rw [hbs] at HX HBg HBl
    unfold Pat.cells at HG0 HBx ⊢
    rw [hkk] at HG0 HBx ⊢
    rw [hkl0] at ⊢
    obtain ⟨bv, hbv⟩ : ∃ bv, begP c p = bv := ⟨_, rfl⟩
    rw [hbv] at HX ⊢
    clear hbv hbs hkk hkl0 hrs hok hkids hp he hN
    obtain ⟨wo, rfl⟩ : ∃ wo, wo = w := ⟨_, rfl⟩
    have hs1 : (wo.alloc (.cells #[.int .i64 kk, .string p.text, .int .i64 p.n, .string p.name, .slice ka kl kc] 24)).heap.size = wo.heap.size + 1 := by simp
    have hconv := string_c (wo.alloc (.cells #[.int .i64 kk, .string p.text, .int .i64 p.n, .string p.name, .slice ka kl kc] 24)) c
    rw [hs1] at hconv
    clear hs1
    have hcw := c.toNat_lt
    unfold maxLen at hht
    have c1 := (HBx.out _ (Grew.refl _)).2.1
    go_enter Tryd.func20, Tryd.ntmps20
    go_wp2_with fail
    refine (HM.out _).mono ?_; rintro e w1 ⟨rfl, hg1⟩
    have G1 : Hid (Grew (wo.alloc (.cells #[.int .i64 kk, .string p.text, .int .i64 p.n, .string p.name, .slice ka kl kc] 24)) w1) := ((Grew.refl _).alloc _).trans hg1
    clear hg1 c1 hconv
    by_cases k1 : kk = 1
    · subst k1
      obtain ⟨c0, c1, c2, c3, c4⟩ := HBx.out w1 G1.out
      clear hmany honly
      by_cases z : 0 < p.text.size
      · have t1 : decide ((0 : Int) < (p.text.size : Int)) = true := decide_eq_true (by omega)
        have t2 : decide (0 < p.text.size) = true := decide_eq_true z
        have HF : Hid (bv = (p.text[0]'z == c)) := by
          rw [Hid, HX.out]
          exact beg_lit z
        by_cases hc : p.text[0]'z = c
        · have e0 : (((p.text[0]'z).toNat : Int) == (c.toNat : Int)) = true := by rw [hc]; simp
          have e1 : (p.text[0]'z).toNat = c.toNat := by rw [hc]
          have HF2 : Hid (bv = true) := by rw [Hid, HF.out, beq_iff_eq]; exact hc
          clear hc
          go_wp2_with fail
          go_ret
          rw [HF2.out]
          exact ⟨rfl, HG0.out.trans G1.out⟩
        · have e0 : (((p.text[0]'z).toNat : Int) == (c.toNat : Int)) = false := by
            rw [beq_eq_false_iff_ne]; intro e; exact hc (UInt8.toNat_inj.1 (by omega))
          have HF2 : Hid (bv = false) := by rw [Hid, HF.out, beq_eq_false_iff_ne]; exact hc
          clear hc
          go_wp2_with fail
          go_ret
          rw [HF2.out]
          exact ⟨rfl, HG0.out.trans G1.out⟩
      · have t1 : decide ((0 : Int) < (p.text.size : Int)) = false := decide_eq_false (by omega)
        have t2 : decide (0 < p.text.size) = false := decide_eq_false z
        have HF : Hid (bv = false) := by
          rw [Hid, HX.out]
          show (match p.text.data.toList with | x :: _ => x == c | [] => false) = _
          have hz : p.text.data.toList = [] := List.eq_nil_of_length_eq_zero (by show p.text.size = 0; omega)
          rw [hz]
        go_wp2_with fail
        go_ret
        rw [HF.out]
        exact ⟨rfl, HG0.out.trans G1.out⟩
    by_cases k2 : kk = 2
    · subst k2
      have HF : Hid (bv = decide (0 < p.n)) := by rw [Hid, HX.out]; first | rfl | (rw [← HMv.out]; rfl) | (rw [← HMv.out, Bool.not_not]; rfl)
      have c2 := (HBx.out w1 G1.out).2.2.1
      have c0 := (HBx.out w1 G1.out).1
      clear hmany honly
      go_wp2_with fail
      go_ret
      rw [HF.out]
      exact ⟨rfl, HG0.out.trans G1.out⟩
    by_cases k3 : kk = 3
    · subst k3
      have HF : Hid (bv = mv) := by rw [Hid, HX.out]; first | rfl | (rw [← HMv.out]; rfl) | (rw [← HMv.out, Bool.not_not]; rfl)
      have c0 := (HBx.out w1 G1.out).1
      clear hmany honly
      go_wp2_with fail
      go_ret
      rw [HF.out]
      exact ⟨rfl, HG0.out.trans G1.out⟩
    by_cases k5 : kk = 5
    · subst k5
      have HF : Hid (bv = mv) := by rw [Hid, HX.out]; first | rfl | (rw [← HMv.out]; rfl) | (rw [← HMv.out, Bool.not_not]; rfl)
      have c0 := (HBx.out w1 G1.out).1
      clear hmany honly
      go_wp2_with fail
      go_ret
      rw [HF.out]
      exact ⟨rfl, HG0.out.trans G1.out⟩
    by_cases k4 : kk = 4
    · subst k4
      have HF : Hid (bv = !mv) := by rw [Hid, HX.out]; first | rfl | (rw [← HMv.out]; rfl) | (rw [← HMv.out, Bool.not_not]; rfl)
      have c0 := (HBx.out w1 G1.out).1
      clear hmany honly
      go_wp2_with fail
      go_ret
      rw [HF.out]
      exact ⟨rfl, HG0.out.trans G1.out⟩
    by_cases k6 : kk = 6
    · subst k6
      have HF : Hid (bv = !mv) := by rw [Hid, HX.out]; first | rfl | (rw [← HMv.out]; rfl) | (rw [← HMv.out, Bool.not_not]; rfl)
      have c0 := (HBx.out w1 G1.out).1
      clear hmany honly
      go_wp2_with fail
      go_ret
      rw [HF.out]
      exact ⟨rfl, HG0.out.trans G1.out⟩
    by_cases k10 : kk = 10
    · subst k10
      have HF : Hid (bv = false) := by rw [Hid, HX.out]; first | rfl | (rw [← HMv.out]; rfl) | (rw [← HMv.out, Bool.not_not]; rfl)
      have c0 := (HBx.out w1 G1.out).1
      clear hmany honly
      go_wp2_with fail
      go_ret
      rw [HF.out]
      exact ⟨rfl, HG0.out.trans G1.out⟩
    by_cases k11 : kk = 11
    · subst k11
      have HF : Hid (bv = false) := by rw [Hid, HX.out]; first | rfl | (rw [← HMv.out]; rfl) | (rw [← HMv.out, Bool.not_not]; rfl)
      have c0 := (HBx.out w1 G1.out).1
      clear hmany honly
      go_wp2_with fail
      go_ret
      rw [HF.out]
      exact ⟨rfl, HG0.out.trans G1.out⟩
    by_cases k16 : kk = 16
    · subst k16
      have HF : Hid (bv = false) := by rw [Hid, HX.out]; first | rfl | (rw [← HMv.out]; rfl) | (rw [← HMv.out, Bool.not_not]; rfl)
      have c0 := (HBx.out w1 G1.out).1
      clear hmany honly
      go_wp2_with fail
      go_ret
      rw [HF.out]
      exact ⟨rfl, HG0.out.trans G1.out⟩
    by_cases k23 : kk = 23
    · subst k23
      have HF : Hid (bv = false) := by rw [Hid, HX.out]; first | rfl | (rw [← HMv.out]; rfl) | (rw [← HMv.out, Bool.not_not]; rfl)
      have c0 := (HBx.out w1 G1.out).1
      clear hmany honly
      go_wp2_with fail
      go_ret
      rw [HF.out]
      exact ⟨rfl, HG0.out.trans G1.out⟩
    by_cases k15 : kk = 15
    · subst k15
      have HF : Hid (bv = false) := by rw [Hid, HX.out]; first | rfl | (rw [← HMv.out]; rfl) | (rw [← HMv.out, Bool.not_not]; rfl)
      have c0 := (HBx.out w1 G1.out).1
      clear hmany honly
      go_wp2_with fail
      go_ret
      rw [HF.out]
      exact ⟨rfl, HG0.out.trans G1.out⟩
    by_cases k17 : kk = 17
    · subst k17
      have HF : Hid (bv = false) := by rw [Hid, HX.out]; first | rfl | (rw [← HMv.out]; rfl) | (rw [← HMv.out, Bool.not_not]; rfl)
      have c0 := (HBx.out w1 G1.out).1
      clear hmany honly
      go_wp2_with fail
      go_ret
      rw [HF.out]
      exact ⟨rfl, HG0.out.trans G1.out⟩
    by_cases k14 : kk = 14
    · subst k14
      have HF : Hid (bv = (c != 41)) := by rw [Hid, HX.out]; rfl
      have c0 := (HBx.out w1 G1.out).1
      clear hmany honly
      by_cases hc : c = 41
      · have e0 : ((c.toNat : Int) == 41) = true := by rw [hc]; rfl
        have e1 : ((c.toNat : Int) != 41) = false := by rw [hc]; rfl
        have HF2 : Hid (bv = false) := by rw [Hid, HF.out, hc]; rfl
        clear hc
        go_wp2_with fail
        go_ret
        rw [HF2.out]
        exact ⟨rfl, HG0.out.trans G1.out⟩
      · have e0 : ((c.toNat : Int) == 41) = false := by
          rw [beq_eq_false_iff_ne]; intro e; exact hc (UInt8.toNat_inj.1 (by show c.toNat = 41; omega))
        have e1 : ((c.toNat : Int) != 41) = true := by rw [bne, e0]; rfl
        have HF2 : Hid (bv = true) := by rw [Hid, HF.out, bne_iff_ne]; exact hc
        clear hc
        go_wp2_with fail
        go_ret
        rw [HF2.out]
        exact ⟨rfl, HG0.out.trans G1.out⟩
    by_cases k20 : kk = 20
    · subst k20
      obtain rfl := honly (by omega)
      rcases HK.out with hk0 | ⟨b', o', rfl, hk0, hk1, hk2, hks⟩
      · omega
      have HKs := hidd hks
      unfold maxLen at hk2
      obtain ⟨c0, c1, c2, c3, c4⟩ := HBx.out w1 G1.out
      have hlt : 0 < 1 := Nat.succ_pos _
      obtain ⟨i, hi0⟩ : ∃ i : Nat, i = 0 := ⟨_, rfl⟩
      rw [← hi0] at hlt
      clear hmany honly hks
      obtain ⟨kq, hnq, hvq⟩ := (HKs.out i hlt).value
      obtain ⟨h3, hgeb⟩ := HBg.out i hlt
      have hib : i < bs.length := h3
      obtain ⟨h2, hget⟩ := HRg.out i hlt
      obtain ⟨her, hnr⟩ := hKn.out i hlt
      have hil : i < rs.length := h2
      obtain ⟨r, hr⟩ : ∃ r, p.kids.getD i Pat.zero = r := ⟨_, rfl⟩
      rw [hr] at hnq hvq hget hgeb her hnr
      clear hr
      obtain ⟨ra, rc, ekq, _⟩ := hvq.kids.len
      subst ekq
      have HF : Hid (bv = begP c r) := by
        rw [Hid, HX.out, ← hgeb]
        show bs.getD 0 false = _
        rw [← hi0, List.getD_eq_getElem?_getD, List.getElem?_eq_getElem hib]; rfl
      have HC : Hid (Calls Tryd.prog 20 #[.agg (r.cells (.slice ra r.kids.length rc)), .int .u8 (c.toNat : Nat)] w1 fun e w' => e = .returned (.bool (begP c r)) ∧ Hid (Grew wo w')) :=
        (IH.out _ r _ (hvq.kept (HG0.out.trans G1.out)) her hnr).mono fun e w' ⟨h1, h2⟩ => ⟨h1, (HG0.out.trans G1.out).trans h2⟩
      subst hi0
      obtain ⟨k0, k1, k2, k3, k4, _, _, _, _⟩ := hnq.kept (HG0.out.trans G1.out)
      unfold Pat.cells at HC
      obtain ⟨rk, hrk⟩ : ∃ rk, r.kids.length = rk := ⟨_, rfl⟩
      rw [hrk] at HC k4
      rw [Nat.zero_mul, Nat.add_zero] at k0 k1 k2 k3 k4
      clear hnq hvq hrk hget hgeb her hnr hil hib
      go_wp2_with fail
      refine HC.out.mono ?_; rintro e w2 ⟨rfl, G2⟩
      go_wp2_with fail
      go_ret
      rw [HF.out]
      exact ⟨rfl, G2.out⟩
    by_cases k21 : kk = 21
    · subst k21
      obtain rfl := honly (by omega)
      rcases HK.out with hk0 | ⟨b', o', rfl, hk0, hk1, hk2, hks⟩
      · omega
      have HKs := hidd hks
      unfold maxLen at hk2
      obtain ⟨c0, c1, c2, c3, c4⟩ := HBx.out w1 G1.out
      have hlt : 0 < 1 := Nat.succ_pos _
      obtain ⟨i, hi0⟩ : ∃ i : Nat, i = 0 := ⟨_, rfl⟩
      rw [← hi0] at hlt
      clear hmany honly hks
      obtain ⟨kq, hnq, hvq⟩ := (HKs.out i hlt).value
      obtain ⟨h3, hgeb⟩ := HBg.out i hlt
      have hib : i < bs.length := h3
      obtain ⟨h2, hget⟩ := HRg.out i hlt
      obtain ⟨her, hnr⟩ := hKn.out i hlt
      have hil : i < rs.length := h2
      obtain ⟨r, hr⟩ : ∃ r, p.kids.getD i Pat.zero = r := ⟨_, rfl⟩
      rw [hr] at hnq hvq hget hgeb her hnr
      clear hr
      obtain ⟨ra, rc, ekq, _⟩ := hvq.kids.len
      subst ekq
      have HF : Hid (bv = begP c r) := by
        rw [Hid, HX.out, ← hgeb]
        show bs.getD 0 false = _
        rw [← hi0, List.getD_eq_getElem?_getD, List.getElem?_eq_getElem hib]; rfl
      have HC : Hid (Calls Tryd.prog 20 #[.agg (r.cells (.slice ra r.kids.length rc)), .int .u8 (c.toNat : Nat)] w1 fun e w' => e = .returned (.bool (begP c r)) ∧ Hid (Grew wo w')) :=
        (IH.out _ r _ (hvq.kept (HG0.out.trans G1.out)) her hnr).mono fun e w' ⟨h1, h2⟩ => ⟨h1, (HG0.out.trans G1.out).trans h2⟩
      subst hi0
      obtain ⟨k0, k1, k2, k3, k4, _, _, _, _⟩ := hnq.kept (HG0.out.trans G1.out)
      unfold Pat.cells at HC
      obtain ⟨rk, hrk⟩ : ∃ rk, r.kids.length = rk := ⟨_, rfl⟩
      rw [hrk] at HC k4
      rw [Nat.zero_mul, Nat.add_zero] at k0 k1 k2 k3 k4
      clear hnq hvq hrk hget hgeb her hnr hil hib
      go_wp2_with fail
      refine HC.out.mono ?_; rintro e w2 ⟨rfl, G2⟩
      go_wp2_with fail
      go_ret
      rw [HF.out]
      exact ⟨rfl, G2.out⟩
    by_cases k22 : kk = 22
    · subst k22
      obtain rfl := honly (by omega)
      rcases HK.out with hk0 | ⟨b', o', rfl, hk0, hk1, hk2, hks⟩
      · omega
      have HKs := hidd hks
      unfold maxLen at hk2
      obtain ⟨c0, c1, c2, c3, c4⟩ := HBx.out w1 G1.out
      have hlt : 0 < 1 := Nat.succ_pos _
      obtain ⟨i, hi0⟩ : ∃ i : Nat, i = 0 := ⟨_, rfl⟩
      rw [← hi0] at hlt
      clear hmany honly hks
      obtain ⟨kq, hnq, hvq⟩ := (HKs.out i hlt).value
      obtain ⟨h3, hgeb⟩ := HBg.out i hlt
      have hib : i < bs.length := h3
      obtain ⟨h2, hget⟩ := HRg.out i hlt
      obtain ⟨her, hnr⟩ := hKn.out i hlt
      have hil : i < rs.length := h2
      obtain ⟨r, hr⟩ : ∃ r, p.kids.getD i Pat.zero = r := ⟨_, rfl⟩
      rw [hr] at hnq hvq hget hgeb her hnr
      clear hr
      obtain ⟨ra, rc, ekq, _⟩ := hvq.kids.len
      subst ekq
      have HF : Hid (bv = begP c r) := by
        rw [Hid, HX.out, ← hgeb]
        show bs.getD 0 false = _
        rw [← hi0, List.getD_eq_getElem?_getD, List.getElem?_eq_getElem hib]; rfl
      have HC : Hid (Calls Tryd.prog 20 #[.agg (r.cells (.slice ra r.kids.length rc)), .int .u8 (c.toNat : Nat)] w1 fun e w' => e = .returned (.bool (begP c r)) ∧ Hid (Grew wo w')) :=
        (IH.out _ r _ (hvq.kept (HG0.out.trans G1.out)) her hnr).mono fun e w' ⟨h1, h2⟩ => ⟨h1, (HG0.out.trans G1.out).trans h2⟩
      subst hi0
      obtain ⟨k0, k1, k2, k3, k4, _, _, _, _⟩ := hnq.kept (HG0.out.trans G1.out)
      unfold Pat.cells at HC
      obtain ⟨rk, hrk⟩ : ∃ rk, r.kids.length = rk := ⟨_, rfl⟩
      rw [hrk] at HC k4
      rw [Nat.zero_mul, Nat.add_zero] at k0 k1 k2 k3 k4
      clear hnq hvq hrk hget hgeb her hnr hil hib
      go_wp2_with fail
      refine HC.out.mono ?_; rintro e w2 ⟨rfl, G2⟩
      go_wp2_with fail
      go_ret
      rw [HF.out]
      exact ⟨rfl, G2.out⟩
    by_cases k18 : kk = 18
    · subst k18
      have HV : Hid (bv = begCat bs rs) := by rw [Hid, HX.out]; rfl
      have hm2 := hmany (by omega)
      rcases HK.out with hk0 | ⟨b', o', rfl, hk0, hk1, hk2, hks⟩
      · omega
      have HKs := hidd hks
      unfold maxLen at hk2
      obtain ⟨c0, c1, c2, c3, c4⟩ := HBx.out w1 G1.out
      clear hmany honly hks hm2
      go_wp2_with fail
      clear c0 c1 c2 c3 c4
      go_loopw [7, 70] (fun _ u70 wr => ∃ i : Nat, u70 = .int .i64 i ∧ i ≤ kl ∧ Hid (bv = begCat (bs.drop i) (rs.drop i)) ∧ Hid (Grew (wo.alloc (.cells #[.int .i64 18, .string p.text, .int .i64 p.n, .string p.name, .slice (some ⟨b', o', none⟩) kl kc] 24)) wr)) (fun _ u70 _ => kl - (intOf u70).toNat)
      case atStart => exact ⟨0, rfl, Nat.zero_le _, HV.out, G1.out⟩
      case round =>
        obtain ⟨i, rfl, hi, HA, HGr⟩ := hrel
        clear G1
        by_cases hlt : i < kl
        · have s1 : decide ((i : Int) < (kl : Int)) = true := decide_eq_true (by omega)
          have s2 : decide (i < kl) = true := decide_eq_true hlt
          obtain ⟨kq, hnq, hvq⟩ := (HKs.out i hlt).value
          obtain ⟨h3, hgeb⟩ := HBg.out i hlt
          have hib : i < bs.length := h3
          obtain ⟨h2, hget⟩ := HRg.out i hlt
          obtain ⟨her, hnr⟩ := hKn.out i hlt
          have hil : i < rs.length := h2
          obtain ⟨r, hr⟩ : ∃ r, p.kids.getD i Pat.zero = r := ⟨_, rfl⟩
          rw [hr] at hnq hvq hget hgeb her hnr
          clear hr
          obtain ⟨ra, rc, ekq, _⟩ := hvq.kids.len
          subst ekq
          have hg3 : Grew wr (wr.alloc (.cells (r.cells (.slice ra r.kids.length rc)) 24)) := (Grew.refl wr).alloc _
          have HC : Hid (Calls Tryd.prog 20 #[.agg (r.cells (.slice ra r.kids.length rc)), .int .u8 (c.toNat : Nat)] (wr.alloc (.cells (r.cells (.slice ra r.kids.length rc)) 24)) fun e w' => e = .returned (.bool (begP c r)) ∧ Hid (Grew (wo.alloc (.cells #[.int .i64 18, .string p.text, .int .i64 p.n, .string p.name, .slice (some ⟨b', o', none⟩) kl kc] 24)) w' ∧ Grew (wr.alloc (.cells (r.cells (.slice ra r.kids.length rc)) 24)) w')) :=
            (IH.out _ r _ (hvq.kept (HG0.out.trans (HGr.out.trans hg3))) her hnr).mono fun e w' ⟨h1, h2⟩ => ⟨h1, (HGr.out.trans hg3).trans h2, h2⟩
          have HN : Hid (∀ w1, Grew (wr.alloc (.cells (r.cells (.slice ra r.kids.length rc)) 24)) w1 → Calls Tryd.prog 22 #[.agg (r.cells (.slice ra r.kids.length rc))] w1 fun e w' => e = .returned (.bool (refP r).nl) ∧ Hid (Grew (wo.alloc (.cells #[.int .i64 18, .string p.text, .int .i64 p.n, .string p.name, .slice (some ⟨b', o', none⟩) kl kc] 24)) w')) := fun w1 g =>
            (NullR_any _ _ r w1 (hvq.kept (HG0.out.trans ((HGr.out.trans hg3).trans g))) her (Nat.le_refl _)).mono fun e w' ⟨h1, h2⟩ => ⟨h1, ((HGr.out.trans hg3).trans g).trans h2⟩
          have HBr := hidd (pat_box wr r (.slice ra r.kids.length rc))
          have HDr : Hid (rs.drop i = refP r :: rs.drop (i + 1)) := by rw [Hid, List.drop_eq_getElem_cons hil, hget]
          have HDb : Hid (bs.drop i = begP c r :: bs.drop (i + 1)) := by rw [Hid, List.drop_eq_getElem_cons hib, hgeb]
          obtain ⟨k0, k1, k2, k3, k4, _, _, _, _⟩ := hnq.kept (HG0.out.trans HGr.out)
          unfold Pat.cells at HC HN HBr
          obtain ⟨rk, hrk⟩ : ∃ rk, r.kids.length = rk := ⟨_, rfl⟩
          rw [hrk] at HC HN HBr k4
          obtain ⟨v, hv⟩ : ∃ v, begP c r = v := ⟨_, rfl⟩
          rw [hv] at HC HDb
          obtain ⟨nl, hnl⟩ : ∃ nl, (refP r).nl = nl := ⟨_, rfl⟩
          rw [hnl] at HN
          cases v with
          | true =>
            have HS : Hid (bv = true) := by rw [Hid, HA.out, HDb.out, HDr.out]; rfl
            clear hnq hvq hrk hv hget hgeb her hnr hil hib hg3 hnl
            go_wp2_with fail
            refine HC.out.mono ?_; rintro e w2 ⟨rfl, G2⟩
            go_wp2_with fail
            go_ret
            rw [HS.out]
            exact ⟨rfl, HG0.out.trans G2.out.1⟩
          | false =>
            cases nl with
            | true =>
              have HS : Hid (bv = begCat (bs.drop (i + 1)) (rs.drop (i + 1))) := by rw [Hid, HA.out, HDb.out, HDr.out, begCat, if_neg (by simp), if_pos hnl]
              clear hnq hvq hrk hv hget hgeb her hnr hil hib hg3 hnl
              go_wp2_with fail
              refine HC.out.mono ?_; rintro e w2 ⟨rfl, G2⟩
              obtain ⟨x0, x1, x2, x3, x4⟩ := HBr.out w2 G2.out.2
              have y0 := (HBx.out w2 G2.out.1).1
              go_wp2_with fail
              refine (HN.out w2 G2.out.2).mono ?_; rintro e w3 ⟨rfl, G3⟩
              go_wp2_with fail
              go_roundw
              case rel => exact ⟨i + 1, by go_num, by omega, HS, G3.out⟩
              case measure => simp [intOf]; omega
            | false =>
              have HS : Hid (bv = false) := by rw [Hid, HA.out, HDb.out, HDr.out, begCat, if_neg (by simp), if_neg (by rw [hnl]; simp)]
              clear hnq hvq hrk hv hget hgeb her hnr hil hib hg3 hnl
              go_wp2_with fail
              refine HC.out.mono ?_; rintro e w2 ⟨rfl, G2⟩
              obtain ⟨x0, x1, x2, x3, x4⟩ := HBr.out w2 G2.out.2
              have y0 := (HBx.out w2 G2.out.1).1
              go_wp2_with fail
              refine (HN.out w2 G2.out.2).mono ?_; rintro e w3 ⟨rfl, G3⟩
              go_wp2_with fail
              go_ret
              rw [HS.out]
              exact ⟨rfl, HG0.out.trans G3.out⟩
        · obtain rfl : i = kl := by omega
          have s1 : decide ((i : Int) < (i : Int)) = false := decide_eq_false (by omega)
          have s2 : decide (i < i) = false := decide_eq_false (by omega)
          have HF : Hid (bv = false) := by
            rw [Hid, HA.out, List.drop_eq_nil_of_le (Nat.le_of_eq HBl.out)]
            first | rfl | simp [begCat]
          go_wp2_with fail
          go_ret
          rw [HF.out]
          exact ⟨rfl, HG0.out.trans HGr.out⟩
    by_cases k19 : kk = 19
    · subst k19
      have HV : Hid (bv = bs.any (fun b => b)) := by rw [Hid, HX.out]; rfl
      have hm2 := hmany (by omega)
      rcases HK.out with hk0 | ⟨b', o', rfl, hk0, hk1, hk2, hks⟩
      · omega
      have HKs := hidd hks
      unfold maxLen at hk2
      obtain ⟨c0, c1, c2, c3, c4⟩ := HBx.out w1 G1.out
      clear hmany honly hks hm2
      go_wp2_with fail
      clear c0 c1 c2 c3 c4
      go_loopw [7, 70] (fun _ u70 wr => ∃ i : Nat, u70 = .int .i64 i ∧ i ≤ kl ∧ Hid (bv = (bs.drop i).any (fun b => b)) ∧ Hid (Grew (wo.alloc (.cells #[.int .i64 19, .string p.text, .int .i64 p.n, .string p.name, .slice (some ⟨b', o', none⟩) kl kc] 24)) wr)) (fun _ u70 _ => kl - (intOf u70).toNat)
      case atStart => exact ⟨0, rfl, Nat.zero_le _, HV.out, G1.out⟩
      case round =>
        obtain ⟨i, rfl, hi, HA, HGr⟩ := hrel
        clear G1
        by_cases hlt : i < kl
        · have s1 : decide ((i : Int) < (kl : Int)) = true := decide_eq_true (by omega)
          have s2 : decide (i < kl) = true := decide_eq_true hlt
          obtain ⟨kq, hnq, hvq⟩ := (HKs.out i hlt).value
          obtain ⟨h3, hgeb⟩ := HBg.out i hlt
          have hib : i < bs.length := h3
          obtain ⟨h2, hget⟩ := HRg.out i hlt
          obtain ⟨her, hnr⟩ := hKn.out i hlt
          have hil : i < rs.length := h2
          obtain ⟨r, hr⟩ : ∃ r, p.kids.getD i Pat.zero = r := ⟨_, rfl⟩
          rw [hr] at hnq hvq hget hgeb her hnr
          clear hr
          obtain ⟨ra, rc, ekq, _⟩ := hvq.kids.len
          subst ekq
          have hg3 : Grew wr (wr.alloc (.cells (r.cells (.slice ra r.kids.length rc)) 24)) := (Grew.refl wr).alloc _
          have HC : Hid (Calls Tryd.prog 20 #[.agg (r.cells (.slice ra r.kids.length rc)), .int .u8 (c.toNat : Nat)] (wr.alloc (.cells (r.cells (.slice ra r.kids.length rc)) 24)) fun e w' => e = .returned (.bool (begP c r)) ∧ Hid (Grew (wo.alloc (.cells #[.int .i64 19, .string p.text, .int .i64 p.n, .string p.name, .slice (some ⟨b', o', none⟩) kl kc] 24)) w' ∧ Grew (wr.alloc (.cells (r.cells (.slice ra r.kids.length rc)) 24)) w')) :=
            (IH.out _ r _ (hvq.kept (HG0.out.trans (HGr.out.trans hg3))) her hnr).mono fun e w' ⟨h1, h2⟩ => ⟨h1, (HGr.out.trans hg3).trans h2, h2⟩
          have HN : Hid (∀ w1, Grew (wr.alloc (.cells (r.cells (.slice ra r.kids.length rc)) 24)) w1 → Calls Tryd.prog 22 #[.agg (r.cells (.slice ra r.kids.length rc))] w1 fun e w' => e = .returned (.bool (refP r).nl) ∧ Hid (Grew (wo.alloc (.cells #[.int .i64 19, .string p.text, .int .i64 p.n, .string p.name, .slice (some ⟨b', o', none⟩) kl kc] 24)) w')) := fun w1 g =>
            (NullR_any _ _ r w1 (hvq.kept (HG0.out.trans ((HGr.out.trans hg3).trans g))) her (Nat.le_refl _)).mono fun e w' ⟨h1, h2⟩ => ⟨h1, ((HGr.out.trans hg3).trans g).trans h2⟩
          have HBr := hidd (pat_box wr r (.slice ra r.kids.length rc))
          have HDr : Hid (rs.drop i = refP r :: rs.drop (i + 1)) := by rw [Hid, List.drop_eq_getElem_cons hil, hget]
          have HDb : Hid (bs.drop i = begP c r :: bs.drop (i + 1)) := by rw [Hid, List.drop_eq_getElem_cons hib, hgeb]
          obtain ⟨k0, k1, k2, k3, k4, _, _, _, _⟩ := hnq.kept (HG0.out.trans HGr.out)
          unfold Pat.cells at HC HN HBr
          obtain ⟨rk, hrk⟩ : ∃ rk, r.kids.length = rk := ⟨_, rfl⟩
          rw [hrk] at HC HN HBr k4
          obtain ⟨v, hv⟩ : ∃ v, begP c r = v := ⟨_, rfl⟩
          rw [hv] at HC HDb
          obtain ⟨nl, hnl⟩ : ∃ nl, (refP r).nl = nl := ⟨_, rfl⟩
          rw [hnl] at HN
          cases v with
          | true =>
            have HS : Hid (bv = true) := by rw [Hid, HA.out, HDb.out]; rfl
            clear hnq hvq hrk hv hget hgeb her hnr hil hib hg3 hnl
            go_wp2_with fail
            refine HC.out.mono ?_; rintro e w2 ⟨rfl, G2⟩
            go_wp2_with fail
            go_ret
            rw [HS.out]
            exact ⟨rfl, HG0.out.trans G2.out.1⟩
          | false =>
            have HS : Hid (bv = (bs.drop (i + 1)).any (fun b => b)) := by rw [Hid, HA.out, HDb.out]; rfl
            clear hnq hvq hrk hv hget hgeb her hnr hil hib hg3 hnl
            go_wp2_with fail
            refine HC.out.mono ?_; rintro e w2 ⟨rfl, G2⟩
            obtain ⟨x0, x1, x2, x3, x4⟩ := HBr.out w2 G2.out.2
            have y0 := (HBx.out w2 G2.out.1).1
            go_wp2_with fail
            go_roundw
            case rel => exact ⟨i + 1, by go_num, by omega, HS, G2.out.1⟩
            case measure => simp [intOf]; omega
        · obtain rfl : i = kl := by omega
          have s1 : decide ((i : Int) < (i : Int)) = false := decide_eq_false (by omega)
          have s2 : decide (i < i) = false := decide_eq_false (by omega)
          have HF : Hid (bv = false) := by
            rw [Hid, HA.out, List.drop_eq_nil_of_le (Nat.le_of_eq HBl.out)]
            first | rfl | simp [begCat]
          go_wp2_with fail
          go_ret
          rw [HF.out]
          exact ⟨rfl, HG0.out.trans HGr.out⟩
    have HF : Hid (bv = true) := by rw [Hid, HX.out]; unfold begK; simp [k1, k2, k3, k4, k5, k6, k10, k11, k14, k15, k16, k17, k18, k19, k20, k21, k22, k23]
    have r1 : (kk == 1) = false := beq_eq_false_iff_ne.2 k1
    have r2 : (kk == 2) = false := beq_eq_false_iff_ne.2 k2
    have r3 : (kk == 3) = false := beq_eq_false_iff_ne.2 k3
    have r4 : (kk == 4) = false := beq_eq_false_iff_ne.2 k4
    have r5 : (kk == 5) = false := beq_eq_false_iff_ne.2 k5
    have r6 : (kk == 6) = false := beq_eq_false_iff_ne.2 k6
    have r10 : (kk == 10) = false := beq_eq_false_iff_ne.2 k10
    have r11 : (kk == 11) = false := beq_eq_false_iff_ne.2 k11
    have r14 : (kk == 14) = false := beq_eq_false_iff_ne.2 k14
    have r15 : (kk == 15) = false := beq_eq_false_iff_ne.2 k15
    have r16 : (kk == 16) = false := beq_eq_false_iff_ne.2 k16
    have r17 : (kk == 17) = false := beq_eq_false_iff_ne.2 k17
    have r18 : (kk == 18) = false := beq_eq_false_iff_ne.2 k18
    have r19 : (kk == 19) = false := beq_eq_false_iff_ne.2 k19
    have r20 : (kk == 20) = false := beq_eq_false_iff_ne.2 k20
    have r21 : (kk == 21) = false := beq_eq_false_iff_ne.2 k21
    have r22 : (kk == 22) = false := beq_eq_false_iff_ne.2 k22
    have r23 : (kk == 23) = false := beq_eq_false_iff_ne.2 k23
    have c0 := (HBx.out w1 G1.out).1
    clear hmany honly k1 k2 k3 k4 k5 k6 k10 k11 k14 k15 k16 k17 k18 k19 k20 k21 k22 k23
    go_wp2_with fail
    go_ret
    rw [HF.out]
    exact ⟨rfl, HG0.out.trans G1.out⟩
end Go.Proofs.YtglfdfeideeeaaaDoor
