/- The document's bounds are the program's, at every right pattern. Plain. -/
import Derived.Test.YtglfdfeideeeaaaDoorT6P
import Derived.Test.YtglfdfeideeeaaaDoorTnLen
import Derived.Test.YtglfdfeideeeaaaDoorT6E
import Derived.Deep.RegionHeld3
namespace Go.Proofs.YtglfdfeideeeaaaDoor
set_option linter.unusedVariables false
theorem like_cat {b : Bd} {bs : List Bd} {r : Rf} {rs : List Rf} (h : LikeL (b :: bs) (r :: rs)) : Like (foldB thenB (b :: bs)) ⟨(r :: rs).any (·.nv), if 65537 < sumR (r :: rs) then 65537 else sumR (r :: rs), mostR false 0 (r :: rs), true⟩ := by
  obtain ⟨h1, hb, hk⟩ := h
  have hnv : (foldB thenB (b :: bs)).never = (r :: rs).any (·.nv) := by
    show (bs.foldl thenB b).never = _
    rw [never_then, like_any hk, List.any_cons, h1.nv]
  refine ⟨hnv, fun hn => ?_, fun hn => ?_⟩
  · have hn : (r :: rs).any (·.nv) = false := hn
    rw [List.any_cons, Bool.or_eq_false_iff] at hn
    obtain ⟨i1, i2, i3⟩ := cat_like hk hn.2 b hb
    show (bs.foldl thenB b).least = if 65537 < sumR (r :: rs) then 65537 else sumR (r :: rs)
    rw [i1, sumR, h1.ls hn.1]
  · have hn : (r :: rs).any (·.nv) = false := hn
    rw [List.any_cons, Bool.or_eq_false_iff] at hn
    obtain ⟨i1, i2, i3⟩ := cat_like hk hn.2 b hb
    show (bs.foldl thenB b).most = mostR false 0 (r :: rs)
    have := hb.m1
    rw [i3, mostR_cat, ← h1.ms hn.1, Int.zero_add]
    by_cases hm : b.most < 0
    · rw [if_pos hm, if_pos hm]
    · rw [if_neg hm, if_neg hm, if_neg (by omega)]
theorem like_alt {b : Bd} {bs : List Bd} {r : Rf} {rs : List Rf} (h : LikeL (b :: bs) (r :: rs)) : Like (foldB orB (b :: bs)) ⟨(r :: rs).all (·.nv), bestR (-1) (r :: rs), mostR true 0 (r :: rs), true⟩ := by
  obtain ⟨i1, i2⟩ := alts_like h ⟨0, 0, true⟩ ⟨by show (0:Int) ≤ 0; omega, by show (0:Int) ≤ 65537; omega, by show (-1:Int) ≤ 0; omega, by show (0:Int) ≤ 65536; omega⟩ rfl
  have e : (b :: bs).foldl orB ⟨0, 0, true⟩ = foldB orB (b :: bs) := by
    rw [List.foldl_cons]
    show List.foldl orB (orB ⟨0, 0, true⟩ b) bs = _
    rw [show orB ⟨0, 0, true⟩ b = b from if_pos rfl]; rfl
  rw [e] at i1 i2
  exact ⟨i1, fun hn => (i2 hn).1, fun hn => (i2 hn).2⟩
mutual
theorem ref_like : ∀ (p : Pat), errW p = 0 → Like (measureP p) (refP p)
  | .mk k t n m l, he => by
    have hok := ((errW_iff _).1 he).1
    have hL := refs_like l ((errW_iff _).1 he).2
    have hmany : k = 18 ∨ k = 19 → 2 ≤ l.length ∧ l.length ≤ 4096 := hok.many
    have honly : k = 20 ∨ k = 21 ∨ k = 22 → l.length = 1 := hok.only
    rw [measureP, refP]
    have h3 : (k = 18 ∨ k = 19 ∨ k = 20 ∨ k = 21 ∨ k = 22) ∨ ¬ (k = 18 ∨ k = 19 ∨ k = 20 ∨ k = 21 ∨ k = 22) := by omega
    rcases h3 with h3 | h3
    · obtain ⟨b, bs, r, rs, e1, e2⟩ : ∃ b bs r rs, measureL l = b :: bs ∧ refL l = r :: rs := by
        cases l with
        | nil =>
          rcases h3 with h | h | h | h | h
          · have := (hmany (Or.inl h)).1; simp at this
          · have := (hmany (Or.inr h)).1; simp at this
          · have := honly (Or.inl h); simp at this
          · have := honly (Or.inr (Or.inl h)); simp at this
          · have := honly (Or.inr (Or.inr h)); simp at this
        | cons p l => exact ⟨_, _, _, _, rfl, rfl⟩
      have hone : k = 20 ∨ k = 21 ∨ k = 22 → bs = [] := fun h => by
        have h1 := honly h
        have h2 : (measureL l).length = l.length := by rw [measureL_map, List.length_map]
        rw [e1, h1, List.length_cons] at h2
        exact List.eq_nil_of_length_eq_zero (by omega)
      rw [e1, e2] at hL ⊢
      rcases h3 with rfl | rfl | rfl | rfl | rfl
      · have h := like_cat hL
        exact ⟨h.nv, h.ls, h.ms⟩
      · have h := like_alt hL
        exact ⟨h.nv, h.ls, h.ms⟩
      · obtain rfl := hone (by omega)
        have h := hL.1
        have hf : foldB thenB [b] = b := rfl
        by_cases hc : b.never = true ∨ b.most = 0
        · have hm : measK 20 t n [b] = ⟨0, 0, false⟩ := by show (if (foldB thenB [b]).never = true ∨ (foldB thenB [b]).most = 0 then (⟨0, 0, false⟩ : Bd) else ⟨0, -1, false⟩) = _; rw [hf, if_pos hc]
          rw [hm]
          refine ⟨rfl, fun _ => rfl, fun _ => ?_⟩
          show (0 : Int) = if r.nv = true ∨ r.ms = 0 then 0 else -1
          rw [if_pos]
          by_cases hn : r.nv = true
          · exact Or.inl hn
          · have hn : r.nv = false := by simpa using hn
            rcases hc with hc | hc
            · rw [h.nv, hn] at hc; cases hc
            · right; rw [← h.ms hn, hc]
        · have hm : measK 20 t n [b] = ⟨0, -1, false⟩ := by show (if (foldB thenB [b]).never = true ∨ (foldB thenB [b]).most = 0 then (⟨0, 0, false⟩ : Bd) else ⟨0, -1, false⟩) = _; rw [hf, if_neg hc]
          rw [hm]
          refine ⟨rfl, fun _ => rfl, fun _ => ?_⟩
          show (-1 : Int) = if r.nv = true ∨ r.ms = 0 then 0 else -1
          have hn : r.nv = false := by rw [← h.nv]; exact Bool.eq_false_iff.2 (fun x => hc (Or.inl x))
          rw [if_neg]
          rintro (x | x)
          · rw [hn] at x; cases x
          · exact hc (Or.inr (by rw [h.ms hn, x]))
      · obtain rfl := hone (by omega)
        exact ⟨hL.1.nv, hL.1.ls, hL.1.ms⟩
      · obtain rfl := hone (by omega)
        exact ⟨hL.1.nv, hL.1.ls, hL.1.ms⟩
    · have hk : 1 ≤ k ∧ k ≤ 24 := hok.kind
      have hcs : k = 1 ∨ k = 2 ∨ k = 3 ∨ k = 4 ∨ k = 5 ∨ k = 6 ∨ k = 7 ∨ k = 8 ∨ k = 9 ∨ k = 10 ∨ k = 11 ∨ k = 12 ∨ k = 13 ∨ k = 14 ∨ k = 15 ∨ k = 16 ∨ k = 17 ∨ k = 23 ∨ k = 24 := by omega
      rcases hcs with rfl | rfl | rfl | rfl | rfl | rfl | rfl | rfl | rfl | rfl | rfl | rfl | rfl | rfl | rfl | rfl | rfl | rfl | rfl <;> first | exact ⟨rfl, fun _ => rfl, fun _ => rfl⟩ | exact ⟨rfl, fun h => absurd (show true = false from h) (by decide), fun h => absurd (show true = false from h) (by decide)⟩
theorem refs_like : ∀ (l : List Pat), (∀ q ∈ l, errW q = 0) → LikeL (measureL l) (refL l)
  | [], _ => by rw [measureL, refL]; exact trivial
  | p :: l, he => by
    rw [measureL, refL]
    exact ⟨ref_like p (he p (by simp)), measureP_ok p (he p (by simp)), refs_like l fun q hq => he q (by simp [hq])⟩
end
theorem length_ref (p : Pat) : lengthOf p = if patErr p = 0 then (if (refP p).nv = true then (0, 0, 6) else ((refP p).ls, (refP p).ms, 0)) else (0, 0, patErr p) := by
  unfold lengthOf
  by_cases h : patErr p = 0
  · rw [if_pos h, if_pos h]
    have hl := ref_like p ((patErr_iff p).1 h).1
    rw [hl.nv]
    by_cases hn : (refP p).nv = true
    · rw [if_pos hn, if_pos hn]
    · have hn' : (refP p).nv = false := by simpa using hn
      rw [if_neg hn, if_neg hn, hl.ls hn', hl.ms hn']
  · rw [if_neg h, if_neg h]
end Go.Proofs.YtglfdfeideeeaaaDoor

namespace Go.Proofs.YtglfdfeideeeaaaDoor
open Go.RowKit
set_option linter.unusedVariables false
set_option maxRecDepth 100000 in
set_option maxHeartbeats 4000000 in
theorem LengthR_any (kv : Value) (p : Pat) (w : World) (hp : PatV w kv p) (hB : nodesP p ≤ 2000000) :
    Calls Tryd.prog 8 #[.agg (p.cells kv)] w fun e w' => e = .returned (.tuple #[.int .i64 (lengthOf p).1, .int .i64 (lengthOf p).2.1, .int .i64 (lengthOf p).2.2]) ∧ Grew w w' := by
  obtain ⟨ka, kc, ekv, hkl⟩ := hp.kids.len
  subst ekv
  have hg0 : Grew w (w.alloc (.cells (p.cells (.slice ka p.kids.length kc)) 24)) := (Grew.refl w).alloc _
  have HBx := hidd (pat_box w p (.slice ka p.kids.length kc))
  have HW : Hid (∀ w1, Grew (w.alloc (.cells (p.cells (.slice ka p.kids.length kc)) 24)) w1 → Calls Tryd.prog 13 #[.agg (p.cells (.slice ka p.kids.length kc))] w1 fun e w' => e = .returned (.int .i64 (patErr p)) ∧ Hid (Grew (w.alloc (.cells (p.cells (.slice ka p.kids.length kc)) 24)) w')) := fun w1 g => (WrongR_any _ p w1 (hp.kept (hg0.trans g)) hB).mono fun e w' ⟨h1, h2⟩ => ⟨h1, g.trans h2⟩
  have HG0 := hidd hg0
  have HPV := hidd hp
  have HL := hidd (length_ref p)
  obtain ⟨x, y, z, hxyz⟩ : ∃ x y z, lengthOf p = (x, y, z) := ⟨_, _, _, rfl⟩
  rw [hxyz] at HL ⊢
  by_cases h0 : patErr p = 0
  · have h1 := (patErr_iff p).1 h0
    rw [h0] at HW
    have HN : Hid (∀ w1, Grew (w.alloc (.cells (p.cells (.slice ka p.kids.length kc)) 24)) w1 → Calls Tryd.prog 16 #[.agg (p.cells (.slice ka p.kids.length kc))] w1 fun e w' => e = .returned (.bool (refP p).nv) ∧ Hid (Grew (w.alloc (.cells (p.cells (.slice ka p.kids.length kc)) 24)) w')) := fun w1 g => (NeverR_any _ _ p w1 (hp.kept (hg0.trans g)) h1.1 (Nat.le_refl _)).mono fun e w' ⟨h1, h2⟩ => ⟨h1, g.trans h2⟩
    have HLs : Hid (∀ w1, Grew (w.alloc (.cells (p.cells (.slice ka p.kids.length kc)) 24)) w1 → Calls Tryd.prog 17 #[.agg (p.cells (.slice ka p.kids.length kc))] w1 fun e w' => e = .returned (.int .i64 (refP p).ls) ∧ Hid (Grew (w.alloc (.cells (p.cells (.slice ka p.kids.length kc)) 24)) w')) := fun w1 g => (LeastR_any _ _ p w1 (hp.kept (hg0.trans g)) h1.1 (Nat.le_refl _) h1.2.1).mono fun e w' ⟨h1, h2⟩ => ⟨h1, g.trans h2⟩
    have HMs : Hid (∀ w1, Grew (w.alloc (.cells (p.cells (.slice ka p.kids.length kc)) 24)) w1 → Calls Tryd.prog 18 #[.agg (p.cells (.slice ka p.kids.length kc))] w1 fun e w' => e = .returned (.int .i64 (refP p).ms) ∧ Hid (Grew (w.alloc (.cells (p.cells (.slice ka p.kids.length kc)) 24)) w')) := fun w1 g => (MostR_any _ _ p w1 (hp.kept (hg0.trans g)) h1.1 (Nat.le_refl _) h1.2.1).mono fun e w' ⟨h1, h2⟩ => ⟨h1, g.trans h2⟩
    rw [Hid, if_pos h0] at HL
    obtain ⟨ls, hls⟩ : ∃ ls, (refP p).ls = ls := ⟨_, rfl⟩
    obtain ⟨ms, hms⟩ : ∃ ms, (refP p).ms = ms := ⟨_, rfl⟩
    rw [hls] at HL HLs
    rw [hms] at HL HMs
    obtain ⟨nv, hnv⟩ : ∃ nv, (refP p).nv = nv := ⟨_, rfl⟩
    rw [hnv] at HL HN
    obtain ⟨kl, hkl0⟩ : ∃ kl, p.kids.length = kl := ⟨_, rfl⟩
    unfold Pat.cells at HN HLs HMs HW HBx HG0 ⊢
    rw [hkl0] at HN HLs HMs HW HBx HG0 ⊢
    obtain ⟨c0, c1, c2, c3, c4⟩ := HBx.out _ (Grew.refl _)
    clear hxyz hp hg0 h0 h1 hls hms hnv hkl0 hkl hB
    cases nv with
    | true =>
      rw [if_pos rfl, Prod.mk.injEq, Prod.mk.injEq] at HL
      obtain ⟨rfl, rfl, rfl⟩ := HL
      go_enter Tryd.func8, Tryd.ntmps8
      go_wp2_with fail
      refine (HW.out _ (Grew.refl _)).mono ?_; rintro e w1 ⟨rfl, G1⟩
      clear c0 c1 c2 c3 c4
      obtain ⟨c0, c1, c2, c3, c4⟩ := HBx.out w1 G1.out
      go_wp2_with fail
      refine (HN.out w1 G1.out).mono ?_; rintro e w2 ⟨rfl, G2⟩
      go_wp2_with fail
      go_ret3
      exact ⟨rfl, HG0.out.trans G2.out⟩
    | false =>
      rw [if_neg (by simp), Prod.mk.injEq, Prod.mk.injEq] at HL
      obtain ⟨rfl, rfl, rfl⟩ := HL
      go_enter Tryd.func8, Tryd.ntmps8
      go_wp2_with fail
      refine (HW.out _ (Grew.refl _)).mono ?_; rintro e w1 ⟨rfl, G1⟩
      clear c0 c1 c2 c3 c4
      obtain ⟨c0, c1, c2, c3, c4⟩ := HBx.out w1 G1.out
      go_wp2_with fail
      refine (HN.out w1 G1.out).mono ?_; rintro e w2 ⟨rfl, G2⟩
      clear c0 c1 c2 c3 c4
      obtain ⟨c0, c1, c2, c3, c4⟩ := HBx.out w2 G2.out
      go_wp2_with fail
      have HGd := hidd (G2.out.drew)
      have hnm0 := HBx.out _ HGd.out
      go_region_held3 (fun x => x.cell? ⟨w.heap.size, 0, none⟩ = some (.int .i64 p.kind) ∧ x.cell? ⟨w.heap.size, 1, none⟩ = some (.string p.text) ∧ x.cell? ⟨w.heap.size, 2, none⟩ = some (.int .i64 p.n) ∧ x.cell? ⟨w.heap.size, 3, none⟩ = some (.string p.name) ∧ x.cell? ⟨w.heap.size, 4, none⟩ = some (.slice ka kl kc)) (first | with_reducible exact hnm2 | with_reducible exact hnm | with_reducible exact hnm0)
        (first
         | (go_at_call 17; refine (HLs.out _ HGd.out).mono ?_; rintro e w3 ⟨rfl, G3⟩; have hnm := HBx.out w3 G3.out)
         | (go_at_call 18; refine (HMs.out _ G3.out).mono ?_; rintro e w4 ⟨rfl, G4⟩; have hnm2 := HBx.out w4 G4.out))
      go_wp2_with fail
      go_ret3
      exact ⟨rfl, HG0.out.trans (by first | exact G4.out | exact G4.out.drew)⟩
  · rw [Hid, if_neg h0, Prod.mk.injEq, Prod.mk.injEq] at HL
    obtain ⟨rfl, rfl, rfl⟩ := HL
    obtain ⟨er, her⟩ : ∃ er, patErr p = er := ⟨_, rfl⟩
    rw [her] at HW h0 ⊢
    have t0 : (er == 0) = false := beq_eq_false_iff_ne.2 h0
    obtain ⟨kl, hkl0⟩ : ∃ kl, p.kids.length = kl := ⟨_, rfl⟩
    unfold Pat.cells at HW HBx HG0 ⊢
    rw [hkl0] at HW HBx HG0 ⊢
    obtain ⟨c0, c1, c2, c3, c4⟩ := HBx.out _ (Grew.refl _)
    clear hxyz hp hg0 h0 her hkl0 hkl hB
    go_enter Tryd.func8, Tryd.ntmps8
    go_wp2_with fail
    refine (HW.out _ (Grew.refl _)).mono ?_; rintro e w1 ⟨rfl, G1⟩
    go_wp2_with fail
    go_ret3
    exact ⟨rfl, HG0.out.trans G1.out⟩
end Go.Proofs.YtglfdfeideeeaaaDoor
