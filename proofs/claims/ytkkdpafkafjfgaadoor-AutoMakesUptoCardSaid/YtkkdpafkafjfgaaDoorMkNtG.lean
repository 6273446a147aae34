/- The document's Places, at every pattern. -/
import Derived.Test.YtkkdpafkafjfgaaDoorMkNtF
namespace Go.Proofs.YtkkdpafkafjfgaaDoor
open Go.RowKit RR
set_option linter.unusedVariables false
set_option linter.unusedSimpArgs false
set_option maxRecDepth 100000
def placesI (p : Pat) : Int := match placesP p with | none => -1 | some n => (n : Nat)
theorem sumK_snoc : ∀ (l : List (Option Nat)) (x : Option Nat), sumK (l ++ [x]) = match sumK l, x with | some a, some b => some (a + b) | _, _ => none
  | [], none => rfl
  | [], some b => by simp [sumK]
  | none :: l, x => by rw [List.cons_append, sumK, sumK]
  | some a :: l, x => by
    rw [List.cons_append, sumK, sumK_snoc l x, sumK]
    cases sumK l <;> cases x <;> simp
    omega
theorem sumK_none_app : ∀ (l r : List (Option Nat)), sumK l = none → sumK (l ++ r) = none
  | [], r, h => by cases h
  | none :: l, r, h => by rw [List.cons_append, sumK]
  | some a :: l, r, h => by
    rw [sumK] at h
    rw [List.cons_append, sumK]
    cases e : sumK l with
    | none => rw [sumK_none_app l r e]; rfl
    | some b => rw [e] at h; cases h
mutual
theorem places_le : ∀ (p : Pat) {n : Nat}, fitP p → placesP p = some n → n ≤ 65536 * nodesP p
  | .mk k t n m l, N, hf, h => by
    rw [fitP] at hf
    rw [placesP] at h
    rw [nodesP]
    unfold placesK at h
    split at h
    · rename_i e; cases h; have := hf.1 e; omega
    split at h
    · rename_i e; cases h; have := hf.2.1 e; omega
    split at h
    · cases h; omega
    split at h
    · cases h; omega
    split at h
    · have := placesL_le l hf.2.2.2.2 h; omega
    · cases h
theorem placesL_le : ∀ (l : List Pat) {n : Nat}, fitL l → sumK (placesL l) = some n → n ≤ 65536 * nodesL l
  | [], n, _, h => by rw [placesL] at h; cases h; omega
  | p :: l, n, hf, h => by
    rw [fitL] at hf
    rw [placesL] at h
    rw [nodesL]
    cases e : placesP p with
    | none => rw [e, sumK] at h; cases h
    | some a =>
      rw [e, sumK] at h
      cases e2 : sumK (placesL l) with
      | none => rw [e2] at h; cases h
      | some b =>
        rw [e2] at h
        have h1 := places_le p hf.1 e
        have h2 := placesL_le l hf.2 e2
        have h3 : a + b = n := by simpa using h
        omega
end
theorem placesI_eq (p : Pat) : placesI p = match placesK p.kind p.text p.n (p.kids.map placesP) with | none => -1 | some n => (n : Nat) := by unfold placesI; rw [placesP_eq]
def PlacesAt (w : World) (p : Pat) (kq : Value) : Prop := ∀ w0 : World, Grew w w0 →
    Calls Tryd.prog 34 #[.agg (p.cells kq)] w0 fun e w' => e = .returned (.int .i64 (placesI p)) ∧ Grew w0 w'
structure KidsG (w : World) (l : List Pat) (b o c : Nat) : Prop where
  pos : 0 < l.length
  le : l.length ≤ c
  max : c ≤ maxLen
  kid : ∀ i, i < l.length → ∃ ka kc, NodeAt w b (o + i * 5) (l.getD i Pat.zero) (.slice ka (l.getD i Pat.zero).kids.length kc) ∧ PlacesAt w (l.getD i Pat.zero) (.slice ka (l.getD i Pat.zero).kids.length kc)
theorem take_places {l : List Pat} {i : Nat} (h : i < l.length) : ((l.take (i + 1)).map placesP) = (l.take i).map placesP ++ [placesP (l.getD i Pat.zero)] := by
  rw [List.take_succ_eq_append_getElem h, List.map_append]
  congr 2
  rw [List.getD_eq_getElem?_getD, List.getElem?_eq_getElem h]; rfl
theorem kid_none {l : List Pat} {i : Nat} (h : i < l.length) {a : Nat} (ha : sumK ((l.take i).map placesP) = some a) (hp : placesP (l.getD i Pat.zero) = none) : sumK (l.map placesP) = none := by
  have e : l.map placesP = (l.take (i + 1)).map placesP ++ (l.drop (i + 1)).map placesP := by rw [← List.map_append, List.take_append_drop]
  rw [e]
  refine sumK_none_app _ _ ?_
  rw [take_places h, sumK_snoc, ha, hp]
theorem kid_some {l : List Pat} {i : Nat} (h : i < l.length) {a b : Nat} (ha : sumK ((l.take i).map placesP) = some a) (hp : placesP (l.getD i Pat.zero) = some b) : sumK ((l.take (i + 1)).map placesP) = some (a + b) := by
  rw [take_places h, sumK_snoc, ha, hp]
theorem fitL_take : ∀ {l : List Pat} (i : Nat), fitL l → fitL (l.take i)
  | [], i, h => by rw [List.take_nil]; exact h
  | p :: l, 0, h => by rw [List.take_zero, fitL]; trivial
  | p :: l, i + 1, h => by rw [fitL] at h; rw [List.take_succ_cons, fitL]; exact ⟨h.1, fitL_take i h.2⟩
theorem nodesL_take (l : List Pat) (i : Nat) : nodesL (l.take i) ≤ nodesL l := by
  have := nodesL_append (l.take i) (l.drop i)
  rw [List.take_append_drop] at this; omega
theorem take_bound {l : List Pat} {i a : Nat} (hf : fitL l) (h : sumK ((l.take i).map placesP) = some a) : a ≤ 65536 * nodesL l := by
  have h1 := placesL_le (l.take i) (fitL_take i hf) (by rw [placesL_map]; exact h)
  have h2 := nodesL_take l i
  have h3 : 65536 * nodesL (l.take i) ≤ 65536 * nodesL l := Nat.mul_le_mul_left _ h2
  omega
theorem places_leaf (k : Int) (t : ByteArray) (n : Int) (m : ByteArray) (l : List Pat) (hk : k ≠ 18 ∧ k ≠ 19 ∧ k ≠ 20) (kv : Value) (hf : fitP (.mk k t n m l)) (w : World) : PlacesAt w (.mk k t n m l) kv := by
  intro w0 g0
  obtain ⟨k18, k19, k20⟩ := hk
  rw [fitP] at hf
  have q18 : (k == 18) = false := by simpa using k18
  have q19 : (k == 19) = false := by simpa using k19
  have q20 : (k == 20) = false := by simpa using k20
  have hb := heap_alloc_new w0 (.cells ((Pat.mk k t n m l).cells kv) 24)
  have c0 : (w0.alloc (.cells ((Pat.mk k t n m l).cells kv) 24)).cell? ⟨w0.heap.size, 0, none⟩ = some (.int .i64 k) := cell_of hb 0
  have c1 : (w0.alloc (.cells ((Pat.mk k t n m l).cells kv) 24)).cell? ⟨w0.heap.size, 1, none⟩ = some (.string t) := cell_of hb 1
  have c2 : (w0.alloc (.cells ((Pat.mk k t n m l).cells kv) 24)).cell? ⟨w0.heap.size, 2, none⟩ = some (.int .i64 n) := cell_of hb 2
  have HG : Hid (Grew w0 (w0.alloc (.cells ((Pat.mk k t n m l).cells kv) 24))) := (Grew.refl w0).alloc _
  have hbw := (Array.getElem?_eq_some_iff.1 hb).1
  have HE : Hid (placesI (.mk k t n m l) = if k = 1 then ((t.size : Nat) : Int) else if k = 2 then n else if k = 3 ∨ k = 4 ∨ k = 13 then 1 else if k = 15 then 0 else -1) := by
    unfold Hid
    rw [placesI_eq]
    show (match placesK k t n (l.map placesP) with | none => -1 | some n => (n : Int)) = _
    unfold placesK
    by_cases h1 : k = 1
    · rw [if_pos h1, if_pos h1]
    rw [if_neg h1, if_neg h1]
    by_cases h2 : k = 2
    · rw [if_pos h2, if_pos h2]; have := (hf.2.1 h2).1; show ((n.toNat : Nat) : Int) = n; omega
    rw [if_neg h2, if_neg h2]
    by_cases h3 : k = 3 ∨ k = 4 ∨ k = 13
    · rw [if_pos h3, if_pos h3]; rfl
    rw [if_neg h3, if_neg h3]
    by_cases h15 : k = 15
    · rw [if_pos h15, if_pos h15]; rfl
    · rw [if_neg h15, if_neg h15, if_neg (by omega)]
  obtain ⟨W, hW⟩ : ∃ W, w0.alloc (.cells ((Pat.mk k t n m l).cells kv) 24) = W := ⟨_, rfl⟩
  rw [hW] at c0 c1 c2 HG hbw
  clear hb hf
  unfold Pat.cells at hW ⊢
  dsimp only [Pat.kind, Pat.text, Pat.n, Pat.name] at hW ⊢
  by_cases h1 : k = 1
  · subst h1
    go_enter Tryd.func34, Tryd.ntmps34
    go_wp2_with fail
    go_ret
    exact ⟨by rw [HE.out]; rfl, HG.out⟩
  by_cases h2 : k = 2
  · subst h2
    go_enter Tryd.func34, Tryd.ntmps34
    go_wp2_with fail
    go_ret
    exact ⟨by rw [HE.out]; rfl, HG.out⟩
  by_cases h3 : k = 3
  · subst h3
    go_enter Tryd.func34, Tryd.ntmps34
    go_wp2_with fail
    go_ret
    exact ⟨by rw [HE.out]; rfl, HG.out⟩
  by_cases h4 : k = 4
  · subst h4
    go_enter Tryd.func34, Tryd.ntmps34
    go_wp2_with fail
    go_ret
    exact ⟨by rw [HE.out]; rfl, HG.out⟩
  by_cases h13 : k = 13
  · subst h13
    go_enter Tryd.func34, Tryd.ntmps34
    go_wp2_with fail
    go_ret
    exact ⟨by rw [HE.out]; rfl, HG.out⟩
  by_cases h15 : k = 15
  · subst h15
    go_enter Tryd.func34, Tryd.ntmps34
    go_wp2_with fail
    go_ret
    exact ⟨by rw [HE.out]; rfl, HG.out⟩
  · have q1 : (k == 1) = false := by simpa using h1
    have q2 : (k == 2) = false := by simpa using h2
    have q3 : (k == 3) = false := by simpa using h3
    have q4 : (k == 4) = false := by simpa using h4
    have q13 : (k == 13) = false := by simpa using h13
    have q15 : (k == 15) = false := by simpa using h15
    have HV : Hid (placesI (.mk k t n m l) = -1) := by
      unfold Hid
      rw [HE.out, if_neg h1, if_neg h2, if_neg (by omega), if_neg h15]
    clear h1 h2 h3 h4 h13 h15 k18 k19 k20 HE
    go_enter Tryd.func34, Tryd.ntmps34
    go_wp2_with fail
    go_ret
    exact ⟨by rw [HV.out]; rfl, HG.out⟩
theorem places_k18 (t : ByteArray) (n : Int) (m : ByteArray) (l : List Pat) (b o c : Nat) (w : World) (hf : fitL l) (hN : nodesL l ≤ 100000) (hK : KidsG w l b o c) : PlacesAt w (.mk 18 t n m l) (.slice (some ⟨b, o, none⟩) l.length c) := by
  intro w0 g0
  have HE : Hid (placesI (.mk 18 t n m l) = match sumK (l.map placesP) with | none => -1 | some n => (n : Nat)) := placesI_eq _
  have HK := hidd hK
  have HFl := hidd hf
  have HN := hidd hN
  have h1 := hK.le
  have h2 := hK.max
  unfold maxLen at h2
  obtain ⟨kv, hkv⟩ : ∃ kv, kv = Value.slice (some ⟨b, o, none⟩) l.length c := ⟨_, rfl⟩
  rw [← hkv]
  have hb := heap_alloc_new w0 (.cells ((Pat.mk 18 t n m l).cells kv) 24)
  have c0 : (w0.alloc (.cells ((Pat.mk 18 t n m l).cells kv) 24)).cell? ⟨w0.heap.size, 0, none⟩ = some (.int .i64 18) := cell_of hb 0
  have c4 : (w0.alloc (.cells ((Pat.mk 18 t n m l).cells kv) 24)).cell? ⟨w0.heap.size, 4, none⟩ = some (.slice (some ⟨b, o, none⟩) l.length c) := (cell_of hb 4).trans (by rw [hkv]; rfl)
  have HG : Hid (Grew w0 (w0.alloc (.cells ((Pat.mk 18 t n m l).cells kv) 24))) := (Grew.refl w0).alloc _
  have hbw := (Array.getElem?_eq_some_iff.1 hb).1
  obtain ⟨W, hW⟩ : ∃ W, w0.alloc (.cells ((Pat.mk 18 t n m l).cells kv) 24) = W := ⟨_, rfl⟩
  rw [hW] at c0 c4 HG hbw
  obtain ⟨q, hq⟩ : ∃ q, l.length = q := ⟨_, rfl⟩
  have HQ := hidd hq
  have HG0 := hidd g0
  rw [hq] at c4 h1
  clear hb hf hN hK hq hkv g0
  unfold Pat.cells at hW ⊢
  dsimp only [Pat.kind, Pat.text, Pat.n, Pat.name] at hW ⊢
  go_enter Tryd.func34, Tryd.ntmps34
  go_wp2_with fail
  clear hW c0 c4 hbw
  go_loopw [3, 31] (fun s3 s31 wr => ∃ i a : Nat, s31 = .int .i64 (i : Nat) ∧ i ≤ q ∧ s3 = .int .i64 (a : Nat) ∧ Hid (sumK ((l.take i).map placesP) = some a ∧ Grew w0 wr)) (fun _ s31 _ => q - (intOf s31).toNat)
  case atStart => exact ⟨0, 0, rfl, by omega, rfl, rfl, HG.out⟩
  case round =>
    obtain ⟨i, a, rfl, hi, rfl, KG⟩ := hrel
    clear HG
    by_cases hlt : i < q
    · have hil : i < l.length := by rw [HQ.out]; exact hlt
      have kl : decide ((i : Int) < (q : Int)) = true := decide_eq_true (by omega)
      have kl2 : decide (i < q) = true := decide_eq_true hlt
      obtain ⟨ka, kc, hnq, hdr⟩ := HK.out.kid i hil
      have HNo := hidd (kid_none hil KG.out.1)
      have HSo : Hid (∀ b, placesP (l.getD i Pat.zero) = some b → sumK ((l.take (i + 1)).map placesP) = some (a + b)) := fun b hb => kid_some hil KG.out.1 hb
      have HGr := hidd KG.out.2
      have HBd : Hid (∀ i a, sumK ((l.take i).map placesP) = some a → a ≤ 6553600000) := fun i a h => Nat.le_trans (take_bound HFl.out h) (by have := HN.out; omega)
      have hab := HBd.out i a KG.out.1
      obtain ⟨r, hr⟩ : ∃ r, l.getD i Pat.zero = r := ⟨_, rfl⟩
      rw [hr] at HNo HSo hnq hdr
      obtain ⟨k0, k1, k2, k3, k4, _, _, _, _⟩ := hnq.kept (HG0.out.trans HGr.out)
      have gx : Grew wr (wr.alloc (.cells #[.int .i64 r.kind, .string r.text, .int .i64 r.n, .string r.name, .slice ka r.kids.length kc] 24)) := (Grew.refl wr).alloc _
      have HC := hidd (hdr (wr.alloc (.cells #[.int .i64 r.kind, .string r.text, .int .i64 r.n, .string r.name, .slice ka r.kids.length kc] 24)) ((HG0.out.trans HGr.out).trans gx))
      have HGx := hidd gx
      unfold Pat.cells at HC
      obtain ⟨rk, hrk⟩ : ∃ rk, r.kids.length = rk := ⟨_, rfl⟩
      rw [hrk] at k4 HC HGx
      clear hnq hdr hil hr hrk KG gx
      go_wp2_with fail
      refine HC.out.mono ?_; rintro e w2 ⟨rfl, g2⟩
      have HG2 := hidd (HGr.out.trans (HGx.out.trans g2))
      clear HC HGx HGr k0 k1 k2 k3 k4 g2
      cases hp : placesP r with
      | none =>
        have hpi : placesI r = -1 := by unfold placesI; rw [hp]
        rw [hpi]
        have HV := hidd (HNo.out hp)
        clear HNo HSo hp hpi
        go_wp2_with fail
        go_ret
        exact ⟨by rw [HE.out, HV.out]; rfl, HG2.out⟩
      | some v =>
        have hpi : placesI r = (v : Nat) := by unfold placesI; rw [hp]
        rw [hpi]
        have HV := hidd (HSo.out v hp)
        have hav := HBd.out (i + 1) (a + v) HV.out
        have kv0 : decide ((v : Int) < 0) = false := decide_eq_false (by omega)
        clear HNo HSo hp hpi HBd
        go_wp2_with fail
        exact ⟨⟨i + 1, a + v, by simp, by omega, by simp, HV.out, HG2.out⟩, by simp [intOf]; omega⟩
    · have hie : i = q := by omega
      have kl : decide ((i : Int) < (q : Int)) = false := decide_eq_false (by omega)
      have HV : Hid (sumK (l.map placesP) = some a) := by
        have := KG.out.1
        rw [hie, ← HQ.out, List.take_length] at this; exact this
      have HGr := hidd KG.out.2
      clear KG
      go_wp2_with fail
      go_ret
      exact ⟨by rw [HE.out, HV.out]; rfl, HGr.out⟩
theorem places_k19 (t : ByteArray) (n : Int) (m : ByteArray) (l : List Pat) (b o c : Nat) (w : World) (hf : fitL l) (hN : nodesL l ≤ 100000) (hK : KidsG w l b o c) : PlacesAt w (.mk 19 t n m l) (.slice (some ⟨b, o, none⟩) l.length c) := by
  intro w0 g0
  have HE : Hid (placesI (.mk 19 t n m l) = match sumK (l.map placesP) with | none => -1 | some n => (n : Nat)) := placesI_eq _
  have HK := hidd hK
  have HFl := hidd hf
  have HN := hidd hN
  have h1 := hK.le
  have h2 := hK.max
  unfold maxLen at h2
  obtain ⟨kv, hkv⟩ : ∃ kv, kv = Value.slice (some ⟨b, o, none⟩) l.length c := ⟨_, rfl⟩
  rw [← hkv]
  have hb := heap_alloc_new w0 (.cells ((Pat.mk 19 t n m l).cells kv) 24)
  have c0 : (w0.alloc (.cells ((Pat.mk 19 t n m l).cells kv) 24)).cell? ⟨w0.heap.size, 0, none⟩ = some (.int .i64 19) := cell_of hb 0
  have c4 : (w0.alloc (.cells ((Pat.mk 19 t n m l).cells kv) 24)).cell? ⟨w0.heap.size, 4, none⟩ = some (.slice (some ⟨b, o, none⟩) l.length c) := (cell_of hb 4).trans (by rw [hkv]; rfl)
  have HG : Hid (Grew w0 (w0.alloc (.cells ((Pat.mk 19 t n m l).cells kv) 24))) := (Grew.refl w0).alloc _
  have hbw := (Array.getElem?_eq_some_iff.1 hb).1
  obtain ⟨W, hW⟩ : ∃ W, w0.alloc (.cells ((Pat.mk 19 t n m l).cells kv) 24) = W := ⟨_, rfl⟩
  rw [hW] at c0 c4 HG hbw
  obtain ⟨q, hq⟩ : ∃ q, l.length = q := ⟨_, rfl⟩
  have HQ := hidd hq
  have HG0 := hidd g0
  rw [hq] at c4 h1
  clear hb hf hN hK hq hkv g0
  unfold Pat.cells at hW ⊢
  dsimp only [Pat.kind, Pat.text, Pat.n, Pat.name] at hW ⊢
  go_enter Tryd.func34, Tryd.ntmps34
  go_wp2_with fail
  clear hW c0 c4 hbw
  go_loopw [3, 31] (fun s3 s31 wr => ∃ i a : Nat, s31 = .int .i64 (i : Nat) ∧ i ≤ q ∧ s3 = .int .i64 (a : Nat) ∧ Hid (sumK ((l.take i).map placesP) = some a ∧ Grew w0 wr)) (fun _ s31 _ => q - (intOf s31).toNat)
  case atStart => exact ⟨0, 0, rfl, by omega, rfl, rfl, HG.out⟩
  case round =>
    obtain ⟨i, a, rfl, hi, rfl, KG⟩ := hrel
    clear HG
    by_cases hlt : i < q
    · have hil : i < l.length := by rw [HQ.out]; exact hlt
      have kl : decide ((i : Int) < (q : Int)) = true := decide_eq_true (by omega)
      have kl2 : decide (i < q) = true := decide_eq_true hlt
      obtain ⟨ka, kc, hnq, hdr⟩ := HK.out.kid i hil
      have HNo := hidd (kid_none hil KG.out.1)
      have HSo : Hid (∀ b, placesP (l.getD i Pat.zero) = some b → sumK ((l.take (i + 1)).map placesP) = some (a + b)) := fun b hb => kid_some hil KG.out.1 hb
      have HGr := hidd KG.out.2
      have HBd : Hid (∀ i a, sumK ((l.take i).map placesP) = some a → a ≤ 6553600000) := fun i a h => Nat.le_trans (take_bound HFl.out h) (by have := HN.out; omega)
      have hab := HBd.out i a KG.out.1
      obtain ⟨r, hr⟩ : ∃ r, l.getD i Pat.zero = r := ⟨_, rfl⟩
      rw [hr] at HNo HSo hnq hdr
      obtain ⟨k0, k1, k2, k3, k4, _, _, _, _⟩ := hnq.kept (HG0.out.trans HGr.out)
      have gx : Grew wr (wr.alloc (.cells #[.int .i64 r.kind, .string r.text, .int .i64 r.n, .string r.name, .slice ka r.kids.length kc] 24)) := (Grew.refl wr).alloc _
      have HC := hidd (hdr (wr.alloc (.cells #[.int .i64 r.kind, .string r.text, .int .i64 r.n, .string r.name, .slice ka r.kids.length kc] 24)) ((HG0.out.trans HGr.out).trans gx))
      have HGx := hidd gx
      unfold Pat.cells at HC
      obtain ⟨rk, hrk⟩ : ∃ rk, r.kids.length = rk := ⟨_, rfl⟩
      rw [hrk] at k4 HC HGx
      clear hnq hdr hil hr hrk KG gx
      go_wp2_with fail
      refine HC.out.mono ?_; rintro e w2 ⟨rfl, g2⟩
      have HG2 := hidd (HGr.out.trans (HGx.out.trans g2))
      clear HC HGx HGr k0 k1 k2 k3 k4 g2
      cases hp : placesP r with
      | none =>
        have hpi : placesI r = -1 := by unfold placesI; rw [hp]
        rw [hpi]
        have HV := hidd (HNo.out hp)
        clear HNo HSo hp hpi
        go_wp2_with fail
        go_ret
        exact ⟨by rw [HE.out, HV.out]; rfl, HG2.out⟩
      | some v =>
        have hpi : placesI r = (v : Nat) := by unfold placesI; rw [hp]
        rw [hpi]
        have HV := hidd (HSo.out v hp)
        have hav := HBd.out (i + 1) (a + v) HV.out
        have kv0 : decide ((v : Int) < 0) = false := decide_eq_false (by omega)
        clear HNo HSo hp hpi HBd
        go_wp2_with fail
        exact ⟨⟨i + 1, a + v, by simp, by omega, by simp, HV.out, HG2.out⟩, by simp [intOf]; omega⟩
    · have hie : i = q := by omega
      have kl : decide ((i : Int) < (q : Int)) = false := decide_eq_false (by omega)
      have HV : Hid (sumK (l.map placesP) = some a) := by
        have := KG.out.1
        rw [hie, ← HQ.out, List.take_length] at this; exact this
      have HGr := hidd KG.out.2
      clear KG
      go_wp2_with fail
      go_ret
      exact ⟨by rw [HE.out, HV.out]; rfl, HGr.out⟩
theorem places_k20 (t : ByteArray) (n : Int) (m : ByteArray) (l : List Pat) (b o c : Nat) (w : World) (hf : fitL l) (hN : nodesL l ≤ 100000) (hK : KidsG w l b o c) : PlacesAt w (.mk 20 t n m l) (.slice (some ⟨b, o, none⟩) l.length c) := by
  intro w0 g0
  have HE : Hid (placesI (.mk 20 t n m l) = match sumK (l.map placesP) with | none => -1 | some n => (n : Nat)) := placesI_eq _
  have HK := hidd hK
  have HFl := hidd hf
  have HN := hidd hN
  have h1 := hK.le
  have h2 := hK.max
  unfold maxLen at h2
  obtain ⟨kv, hkv⟩ : ∃ kv, kv = Value.slice (some ⟨b, o, none⟩) l.length c := ⟨_, rfl⟩
  rw [← hkv]
  have hb := heap_alloc_new w0 (.cells ((Pat.mk 20 t n m l).cells kv) 24)
  have c0 : (w0.alloc (.cells ((Pat.mk 20 t n m l).cells kv) 24)).cell? ⟨w0.heap.size, 0, none⟩ = some (.int .i64 20) := cell_of hb 0
  have c4 : (w0.alloc (.cells ((Pat.mk 20 t n m l).cells kv) 24)).cell? ⟨w0.heap.size, 4, none⟩ = some (.slice (some ⟨b, o, none⟩) l.length c) := (cell_of hb 4).trans (by rw [hkv]; rfl)
  have HG : Hid (Grew w0 (w0.alloc (.cells ((Pat.mk 20 t n m l).cells kv) 24))) := (Grew.refl w0).alloc _
  have hbw := (Array.getElem?_eq_some_iff.1 hb).1
  obtain ⟨W, hW⟩ : ∃ W, w0.alloc (.cells ((Pat.mk 20 t n m l).cells kv) 24) = W := ⟨_, rfl⟩
  rw [hW] at c0 c4 HG hbw
  obtain ⟨q, hq⟩ : ∃ q, l.length = q := ⟨_, rfl⟩
  have HQ := hidd hq
  have HG0 := hidd g0
  rw [hq] at c4 h1
  clear hb hf hN hK hq hkv g0
  unfold Pat.cells at hW ⊢
  dsimp only [Pat.kind, Pat.text, Pat.n, Pat.name] at hW ⊢
  go_enter Tryd.func34, Tryd.ntmps34
  go_wp2_with fail
  clear hW c0 c4 hbw
  go_loopw [3, 31] (fun s3 s31 wr => ∃ i a : Nat, s31 = .int .i64 (i : Nat) ∧ i ≤ q ∧ s3 = .int .i64 (a : Nat) ∧ Hid (sumK ((l.take i).map placesP) = some a ∧ Grew w0 wr)) (fun _ s31 _ => q - (intOf s31).toNat)
  case atStart => exact ⟨0, 0, rfl, by omega, rfl, rfl, HG.out⟩
  case round =>
    obtain ⟨i, a, rfl, hi, rfl, KG⟩ := hrel
    clear HG
    by_cases hlt : i < q
    · have hil : i < l.length := by rw [HQ.out]; exact hlt
      have kl : decide ((i : Int) < (q : Int)) = true := decide_eq_true (by omega)
      have kl2 : decide (i < q) = true := decide_eq_true hlt
      obtain ⟨ka, kc, hnq, hdr⟩ := HK.out.kid i hil
      have HNo := hidd (kid_none hil KG.out.1)
      have HSo : Hid (∀ b, placesP (l.getD i Pat.zero) = some b → sumK ((l.take (i + 1)).map placesP) = some (a + b)) := fun b hb => kid_some hil KG.out.1 hb
      have HGr := hidd KG.out.2
      have HBd : Hid (∀ i a, sumK ((l.take i).map placesP) = some a → a ≤ 6553600000) := fun i a h => Nat.le_trans (take_bound HFl.out h) (by have := HN.out; omega)
      have hab := HBd.out i a KG.out.1
      obtain ⟨r, hr⟩ : ∃ r, l.getD i Pat.zero = r := ⟨_, rfl⟩
      rw [hr] at HNo HSo hnq hdr
      obtain ⟨k0, k1, k2, k3, k4, _, _, _, _⟩ := hnq.kept (HG0.out.trans HGr.out)
      have gx : Grew wr (wr.alloc (.cells #[.int .i64 r.kind, .string r.text, .int .i64 r.n, .string r.name, .slice ka r.kids.length kc] 24)) := (Grew.refl wr).alloc _
      have HC := hidd (hdr (wr.alloc (.cells #[.int .i64 r.kind, .string r.text, .int .i64 r.n, .string r.name, .slice ka r.kids.length kc] 24)) ((HG0.out.trans HGr.out).trans gx))
      have HGx := hidd gx
      unfold Pat.cells at HC
      obtain ⟨rk, hrk⟩ : ∃ rk, r.kids.length = rk := ⟨_, rfl⟩
      rw [hrk] at k4 HC HGx
      clear hnq hdr hil hr hrk KG gx
      go_wp2_with fail
      refine HC.out.mono ?_; rintro e w2 ⟨rfl, g2⟩
      have HG2 := hidd (HGr.out.trans (HGx.out.trans g2))
      clear HC HGx HGr k0 k1 k2 k3 k4 g2
      cases hp : placesP r with
      | none =>
        have hpi : placesI r = -1 := by unfold placesI; rw [hp]
        rw [hpi]
        have HV := hidd (HNo.out hp)
        clear HNo HSo hp hpi
        go_wp2_with fail
        go_ret
        exact ⟨by rw [HE.out, HV.out]; rfl, HG2.out⟩
      | some v =>
        have hpi : placesI r = (v : Nat) := by unfold placesI; rw [hp]
        rw [hpi]
        have HV := hidd (HSo.out v hp)
        have hav := HBd.out (i + 1) (a + v) HV.out
        have kv0 : decide ((v : Int) < 0) = false := decide_eq_false (by omega)
        clear HNo HSo hp hpi HBd
        go_wp2_with fail
        exact ⟨⟨i + 1, a + v, by simp, by omega, by simp, HV.out, HG2.out⟩, by simp [intOf]; omega⟩
    · have hie : i = q := by omega
      have kl : decide ((i : Int) < (q : Int)) = false := decide_eq_false (by omega)
      have HV : Hid (sumK (l.map placesP) = some a) := by
        have := KG.out.1
        rw [hie, ← HQ.out, List.take_length] at this; exact this
      have HGr := hidd KG.out.2
      clear KG
      go_wp2_with fail
      go_ret
      exact ⟨by rw [HE.out, HV.out]; rfl, HGr.out⟩
theorem places_of {w : World} {p : Pat} {kv : Value} (hf : fitP p) (hN : nodesP p ≤ 100000) (hk : 0 < p.kids.length → ∃ b o c, kv = .slice (some ⟨b, o, none⟩) p.kids.length c ∧ KidsG w p.kids b o c) : PlacesAt w p kv := by
  obtain ⟨k, t, n, m, l⟩ := p
  have hf' := hf
  rw [fitP] at hf'
  rw [nodesP] at hN
  have hkids : (k = 18 ∨ k = 19 ∨ k = 20) → ∃ b o c, kv = .slice (some ⟨b, o, none⟩) l.length c ∧ KidsG w l b o c := fun h => hk (hf'.2.2.1 h)
  by_cases h18 : k = 18
  · subst h18
    obtain ⟨b, o, c, rfl, hK⟩ := hkids (Or.inl rfl)
    exact places_k18 t n m l b o c w hf'.2.2.2.2 (by omega) hK
  by_cases h19 : k = 19
  · subst h19
    obtain ⟨b, o, c, rfl, hK⟩ := hkids (Or.inr (Or.inl rfl))
    exact places_k19 t n m l b o c w hf'.2.2.2.2 (by omega) hK
  by_cases h20 : k = 20
  · subst h20
    obtain ⟨b, o, c, rfl, hK⟩ := hkids (Or.inr (Or.inr rfl))
    exact places_k20 t n m l b o c w hf'.2.2.2.2 (by omega) hK
  · exact places_leaf k t n m l ⟨h18, h19, h20⟩ kv hf w
theorem nodes_get {l : List Pat} {i : Nat} (h : i < l.length) : nodesP (l.getD i Pat.zero) ≤ nodesL l := by
  refine nodesL_mem ?_
  rw [List.getD_eq_getElem?_getD, List.getElem?_eq_getElem h]; exact List.getElem_mem h
theorem Places_at {w : World} {b o : Nat} {p : Pat} (hp : PatAt w b o p) : fitP p → nodesP p ≤ 100000 → ∃ ka kc, NodeAt w b o p (.slice ka p.kids.length kc) ∧ PlacesAt w p (.slice ka p.kids.length kc) := by
  induction hp with
  | leaf b o k t n m a c c0 c1 c2 c3 c4 hk hn ht hm =>
    intro hf hN
    exact ⟨a, c, ⟨c0, c1, c2, c3, c4, hk, hn, ht, hm⟩, places_of hf hN fun h => absurd h (Nat.lt_irrefl 0)⟩
  | node b o k t n m l b' o' c c0 c1 c2 c3 c4 hk hn ht hm h0 hc hc' hl ih =>
    intro hf hN
    have hf' := hf
    rw [fitP] at hf'
    have hN' := hN
    rw [nodesP] at hN'
    exact ⟨_, c, ⟨c0, c1, c2, c3, c4, hk, hn, ht, hm⟩, places_of hf hN fun _ => ⟨b', o', c, rfl, h0, hc, hc', fun i hi => ih i hi (fitL_get hf'.2.2.2.2 hi) (Nat.le_trans (nodes_get hi) (by omega))⟩⟩
theorem Places_any {w : World} {p : Pat} {kv : Value} (hv : PatV w kv p) (hf : fitP p) (hN : nodesP p ≤ 100000) : PlacesAt w p kv := by
  refine places_of hf hN fun h => ?_
  obtain ⟨k, t, n, m, l⟩ := p
  rw [fitP] at hf
  rw [nodesP] at hN
  rcases hv.kids with ⟨_, _, _, e⟩ | ⟨b', o', c, e1, h0, hc, hc', hl⟩
  · rw [e] at h; exact absurd h (Nat.lt_irrefl 0)
  · exact ⟨b', o', c, e1, h0, hc, hc', fun i hi => Places_at (hl i hi) (fitL_get hf.2.2.2.2 hi) (Nat.le_trans (nodes_get (l := l) hi) (by omega))⟩
end Go.Proofs.YtkkdpafkafjfgaaDoor
