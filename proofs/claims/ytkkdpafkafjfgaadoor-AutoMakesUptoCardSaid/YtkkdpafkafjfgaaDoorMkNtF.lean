/- (*Net).Draw at pieces with kids; at every right pattern. -/
import Derived.Test.YtkkdpafkafjfgaaDoorMkPNtD
namespace Go.Proofs.YtkkdpafkafjfgaaDoor
open Go.RowKit RR
set_option linter.unusedVariables false
set_option linter.unusedSimpArgs false
set_option maxRecDepth 100000
def DrawsAt (w : World) (p : Pat) (kq : Value) : Prop := ∀ (w0 : World) (nb : Nat) (N : NetP) (F : Nat → Prop) (f g : Nat), NtAt w w0 nb N F → SmallN (drawP p N f g) →
    Calls Tryd.prog 35 #[.pointer (some ⟨nb, 0, none⟩), .agg (p.cells kq), .int .i64 (f : Nat), .int .i64 (g : Nat)] w0 (DrawTo (drawP p N f g) w w0 nb F)
structure KidsD (w : World) (l : List Pat) (b o c : Nat) : Prop where
  pos : 0 < l.length
  le : l.length ≤ c
  max : c ≤ maxLen
  kid : ∀ i, i < l.length → ∃ ka kc, NodeAt w b (o + i * 5) (l.getD i Pat.zero) (.slice ka (l.getD i Pat.zero).kids.length kc) ∧ DrawsAt w (l.getD i Pat.zero) (.slice ka (l.getD i Pat.zero).kids.length kc)
theorem drop_draw {l : List Pat} {i : Nat} (h : i < l.length) : (l.map drawP).drop i = drawP (l.getD i Pat.zero) :: (l.map drawP).drop (i + 1) := by
  rw [List.drop_eq_getElem_cons (by rw [List.length_map]; exact h), List.getElem_map]
  congr 1
  rw [List.getD_eq_getElem?_getD, List.getElem?_eq_getElem h]; rfl
theorem grows_map (l : List Pat) (i : Nat) : ∀ d ∈ (l.map drawP).drop i, GrowsN d := fun d hd => by
  obtain ⟨p, _, rfl⟩ := List.mem_map.1 (List.mem_of_mem_drop hd); exact draw_grows p
theorem SmallN.le {N M : NetP} (h : SmallN M) (k : N.places ≤ M.places ∧ N.arrows.length ≤ M.arrows.length) : SmallN N := ⟨Nat.le_trans k.1 h.1, Nat.le_trans k.2 h.2⟩
structure KdSt (cat : Bool) (R : NetP) (l : List Pat) (i : Nat) (cs : Array Value) (w w0 wr : World) (nb b0 : Nat) (F : Nat → Prop) (f g : Nat) (N : NetP) (G : Nat → Prop) : Prop where
  rest : (if cat then catN ((l.map drawP).drop i) N f g else altN ((l.map drawP).drop i) N f g) = R
  st : DSt cs w w0 wr nb b0 N F G
theorem KdSt.small {cat : Bool} {R : NetP} {l : List Pat} {i : Nat} {cs : Array Value} {w w0 wr : World} {nb b0 : Nat} {F : Nat → Prop} {f g : Nat} {N : NetP} {G : Nat → Prop} (h : KdSt cat R l i cs w w0 wr nb b0 F f g N G) (hR : SmallN R) : SmallN N := by
  have k := h.rest
  cases cat with
  | true => rw [if_pos rfl] at k; rw [← k] at hR; exact hR.le (cat_growsN _ (grows_map l i) N f g)
  | false => rw [if_neg (by decide)] at k; rw [← k] at hR; exact hR.le (alt_growsN _ (grows_map l i) N f g)
theorem cat_next {R : NetP} {l : List Pat} {i : Nat} {N : NetP} {f g : Nat} (h : (if true then catN ((l.map drawP).drop i) N f g else altN ((l.map drawP).drop i) N f g) = R) (hi : i < l.length) :
    (if true then catN ((l.map drawP).drop (i + 1)) (drawP (l.getD i Pat.zero) N.one f N.places) N.places g else altN ((l.map drawP).drop (i + 1)) (drawP (l.getD i Pat.zero) N.one f N.places) N.places g) = R := by
  rw [if_pos rfl] at h ⊢
  rw [drop_draw hi, catN] at h; exact h
theorem alt_next {R : NetP} {l : List Pat} {i : Nat} {N : NetP} {f g : Nat} (h : (if false then catN ((l.map drawP).drop i) N f g else altN ((l.map drawP).drop i) N f g) = R) (hi : i < l.length) :
    (if false then catN ((l.map drawP).drop (i + 1)) (drawP (l.getD i Pat.zero) N f g) f g else altN ((l.map drawP).drop (i + 1)) (drawP (l.getD i Pat.zero) N f g) f g) = R := by
  rw [if_neg (by decide)] at h ⊢
  rw [drop_draw hi, altN] at h; exact h
theorem cat_last {R : NetP} {l : List Pat} {N : NetP} {f g : Nat} (h : (if true then catN ((l.map drawP).drop l.length) N f g else altN ((l.map drawP).drop l.length) N f g) = R) : N.more f g none = R := by
  rw [if_pos rfl, List.drop_of_length_le (by rw [List.length_map]; exact Nat.le_refl _)] at h; exact h
theorem alt_last {R : NetP} {l : List Pat} {N : NetP} {f g : Nat} (h : (if false then catN ((l.map drawP).drop l.length) N f g else altN ((l.map drawP).drop l.length) N f g) = R) : N = R := by
  rw [if_neg (by decide), List.drop_of_length_le (by rw [List.length_map]; exact Nat.le_refl _)] at h; exact h
theorem draw_k18 (t : ByteArray) (n : Int) (m : ByteArray) (l : List Pat) (b o c : Nat) (w : World) (hK : KidsD w l b o c) (w0 : World) (nb : Nat) (N : NetP) (F : Nat → Prop) (f g : Nat) (hG : NtAt w w0 nb N F) (hS : SmallN (catN (l.map drawP) N f g)) :
    Calls Tryd.prog 35 #[.pointer (some ⟨nb, 0, none⟩), .agg ((Pat.mk 18 t n m l).cells (.slice (some ⟨b, o, none⟩) l.length c)), .int .i64 (f : Nat), .int .i64 (g : Nat)] w0 (DrawTo (catN (l.map drawP) N f g) w w0 nb F) := by
  obtain ⟨R, hR⟩ : ∃ R, catN (l.map drawP) N f g = R := ⟨_, rfl⟩
  rw [hR] at hS ⊢
  have HK := hidd hK
  have HS := hidd hS
  have h1 := hK.le
  have h2 := hK.max
  unfold maxLen at h2
  obtain ⟨kv, hkv⟩ : ∃ kv, kv = Value.slice (some ⟨b, o, none⟩) l.length c := ⟨_, rfl⟩
  rw [← hkv]
  have HD := hidd (DSt.start hG ((Pat.mk 18 t n m l).cells kv))
  have c0 : (w0.alloc (.cells ((Pat.mk 18 t n m l).cells kv) 24)).cell? ⟨w0.heap.size, 0, none⟩ = some (.int .i64 18) := HD.out.c 0
  have c4 : (w0.alloc (.cells ((Pat.mk 18 t n m l).cells kv) 24)).cell? ⟨w0.heap.size, 4, none⟩ = some (.slice (some ⟨b, o, none⟩) l.length c) := (HD.out.c 4).trans (by rw [hkv]; rfl)
  obtain ⟨b0, hb0⟩ : ∃ b0, w0.heap.size = b0 := ⟨_, rfl⟩
  obtain ⟨W, hW⟩ : ∃ W, w0.alloc (.cells ((Pat.mk 18 t n m l).cells kv) 24) = W := ⟨_, rfl⟩
  rw [hW, hb0] at HD c0 c4
  have hbw : b0 < W.heap.size := (Array.getElem?_eq_some_iff.1 HD.out.box).1
  obtain ⟨cs, hcs⟩ : ∃ cs, (Pat.mk 18 t n m l).cells kv = cs := ⟨_, rfl⟩
  have HX0 : Hid (KdSt true R l 0 cs w w0 W nb b0 F f g N F) := ⟨by rw [if_pos rfl]; exact hR, by rw [← hcs]; exact HD.out⟩
  obtain ⟨q, hq⟩ : ∃ q, l.length = q := ⟨_, rfl⟩
  have HQ := hidd hq
  rw [hq] at c4 h1
  clear hG hS hR hK hcs HD hq hkv
  unfold Pat.cells at hW ⊢
  dsimp only [Pat.kind, Pat.text, Pat.n, Pat.name] at hW ⊢
  go_enter Tryd.func35, Tryd.ntmps35
  go_wp2_with fail
  clear hW c0 c4 hbw
  go_loopw [2, 104] (fun s2 s104 wr => ∃ i f : Nat, s104 = .int .i64 (i : Nat) ∧ i ≤ q ∧ s2 = .int .i64 (f : Nat) ∧ Hid (∃ N G, KdSt true R l i cs w w0 wr nb b0 F f g N G)) (fun _ s104 _ => q - (intOf s104).toNat)
  case atStart => exact ⟨0, f, rfl, by omega, rfl, N, F, HX0.out⟩
  case round =>
    obtain ⟨i, f2, rfl, hi, rfl, KG⟩ := hrel
    clear HX0
    obtain ⟨N2, G2, hX⟩ := KG.out
    have HX := hidd hX
    have HSm := hidd (hX.small HS.out)
    clear hX KG
    by_cases hlt : i < q
    · have hil : i < l.length := by rw [HQ.out]; exact hlt
      have kl : decide ((i : Int) < (q : Int)) = true := decide_eq_true (by omega)
      have kl2 : decide (i < q) = true := decide_eq_true hlt
      have HNx := hidd (cat_next HX.out.rest hil)
      obtain ⟨ka, kc, hnq, hdr⟩ := HK.out.kid i hil
      obtain ⟨r, hr⟩ : ∃ r, l.getD i Pat.zero = r := ⟨_, rfl⟩
      rw [hr] at HNx hnq hdr
      obtain ⟨k0, k1, k2, k3, k4, _, _, _, _⟩ := hnq.kept HX.out.st.nt.grew
      have HDr := hidd hdr
      have HDs := hidd HX.out.st
      obtain ⟨rk, hrk⟩ : ∃ rk, r.kids.length = rk := ⟨_, rfl⟩
      rw [hrk] at k4 HDr
      clear HX hnq hdr hil hr hrk
      have HSr : Hid (SmallN (drawP r N2.one f2 N2.places)) := by
        have := HNx.out; rw [if_pos rfl] at this
        have hs := HS.out
        rw [← this] at hs
        exact hs.le (cat_growsN _ (grows_map l (i + 1)) _ _ _)
      go_wp2_with fail
      have HD0 := hidd (HDs.out.kept ((Grew.refl wr).alloc (.cells #[.int .i64 r.kind, .string r.text, .int .i64 r.n, .string r.name, .slice ka rk kc] 24)))
      have HBx := hidd (heap_alloc_new wr (.cells #[.int .i64 r.kind, .string r.text, .int .i64 r.n, .string r.name, .slice ka rk kc] 24))
      have HNf : Hid (¬ G2 wr.heap.size) := fun hf => Nat.lt_irrefl _ (HDs.out.nt.lt hf).2
      clear HDs k0 k1 k2 k3 k4
      generalize wr.heap.size = q1 at HBx HNf ⊢
      generalize wr.alloc (.cells #[.int .i64 r.kind, .string r.text, .int .i64 r.n, .string r.name, .slice ka rk kc] 24) = W1 at HBx HD0 ⊢
      refine (HD0.out.place HSm.out.1).mono ?_; rintro e w1 ⟨rfl, h1, k1⟩
      have HD1 := hidd h1
      have hq1 : q1 < W1.heap.size := (Array.getElem?_eq_some_iff.1 HBx.out).1
      have hB1 := (k1.out q1 hq1 HNf.out).trans HBx.out
      have m0 : w1.cell? ⟨q1, 0, none⟩ = some (.int .i64 r.kind) := cell_of hB1 0
      have m1 : w1.cell? ⟨q1, 1, none⟩ = some (.string r.text) := cell_of hB1 1
      have m2 : w1.cell? ⟨q1, 2, none⟩ = some (.int .i64 r.n) := cell_of hB1 2
      have m3 : w1.cell? ⟨q1, 3, none⟩ = some (.string r.name) := cell_of hB1 3
      have m4 : w1.cell? ⟨q1, 4, none⟩ = some (.slice ka rk kc) := cell_of hB1 4
      have hl1 := Nat.lt_of_lt_of_le hq1 k1.size
      have HC := hidd (HDr.out w1 nb N2.one G2 f2 N2.places h1.nt HSr.out)
      unfold Pat.cells at HC
      clear h1 k1 hB1 HD0 HBx hq1 HNf
      go_wp2_with fail
      refine HC.out.mono ?_; rintro e w2 ⟨rfl, G4, h4, k4⟩
      have HX4 : Hid (KdSt true R l (i + 1) cs w w0 w2 nb b0 F N2.places g (drawP r N2.one f2 N2.places) G4) := ⟨HNx.out, HD1.out.step h4 k4⟩
      clear h4 k4 HC HD1 m0 m1 m2 m3 m4
      go_wp2_with fail
      exact ⟨⟨i + 1, N2.places, by simp, by omega, rfl, _, _, HX4.out⟩, by simp [intOf]; omega⟩
    · have hie : i = q := by omega
      have kl : decide ((i : Int) < (q : Int)) = false := decide_eq_false (by omega)
      rw [hie, ← HQ.out] at HX
      have HNx := hidd (cat_last HX.out.rest)
      have HDs := hidd HX.out.st
      clear HX
      go_wp2_with fail
      refine (HDs.out.eps HSm.out.2 f2 g).mono ?_; rintro e w4 ⟨rfl, G4, h4, _⟩
      have HD4 := hidd h4
      clear h4 HDs
      go_wp2_with fail
      go_end0
      rw [← HNx.out]
      exact HD4.out.end_
theorem draw_k19 (t : ByteArray) (n : Int) (m : ByteArray) (l : List Pat) (b o c : Nat) (w : World) (hK : KidsD w l b o c) (w0 : World) (nb : Nat) (N : NetP) (F : Nat → Prop) (f g : Nat) (hG : NtAt w w0 nb N F) (hS : SmallN (altN (l.map drawP) N f g)) :
    Calls Tryd.prog 35 #[.pointer (some ⟨nb, 0, none⟩), .agg ((Pat.mk 19 t n m l).cells (.slice (some ⟨b, o, none⟩) l.length c)), .int .i64 (f : Nat), .int .i64 (g : Nat)] w0 (DrawTo (altN (l.map drawP) N f g) w w0 nb F) := by
  obtain ⟨R, hR⟩ : ∃ R, altN (l.map drawP) N f g = R := ⟨_, rfl⟩
  rw [hR] at hS ⊢
  have HK := hidd hK
  have HS := hidd hS
  have h1 := hK.le
  have h2 := hK.max
  unfold maxLen at h2
  obtain ⟨kv, hkv⟩ : ∃ kv, kv = Value.slice (some ⟨b, o, none⟩) l.length c := ⟨_, rfl⟩
  rw [← hkv]
  have HD := hidd (DSt.start hG ((Pat.mk 19 t n m l).cells kv))
  have c0 : (w0.alloc (.cells ((Pat.mk 19 t n m l).cells kv) 24)).cell? ⟨w0.heap.size, 0, none⟩ = some (.int .i64 19) := HD.out.c 0
  have c4 : (w0.alloc (.cells ((Pat.mk 19 t n m l).cells kv) 24)).cell? ⟨w0.heap.size, 4, none⟩ = some (.slice (some ⟨b, o, none⟩) l.length c) := (HD.out.c 4).trans (by rw [hkv]; rfl)
  obtain ⟨b0, hb0⟩ : ∃ b0, w0.heap.size = b0 := ⟨_, rfl⟩
  obtain ⟨W, hW⟩ : ∃ W, w0.alloc (.cells ((Pat.mk 19 t n m l).cells kv) 24) = W := ⟨_, rfl⟩
  rw [hW, hb0] at HD c0 c4
  have hbw : b0 < W.heap.size := (Array.getElem?_eq_some_iff.1 HD.out.box).1
  obtain ⟨cs, hcs⟩ : ∃ cs, (Pat.mk 19 t n m l).cells kv = cs := ⟨_, rfl⟩
  have HX0 : Hid (KdSt false R l 0 cs w w0 W nb b0 F f g N F) := ⟨by rw [if_neg (by decide)]; exact hR, by rw [← hcs]; exact HD.out⟩
  obtain ⟨q, hq⟩ : ∃ q, l.length = q := ⟨_, rfl⟩
  have HQ := hidd hq
  rw [hq] at c4 h1
  clear hG hS hR hK hcs HD hq hkv
  unfold Pat.cells at hW ⊢
  dsimp only [Pat.kind, Pat.text, Pat.n, Pat.name] at hW ⊢
  go_enter Tryd.func35, Tryd.ntmps35
  go_wp2_with fail
  clear hW c0 c4 hbw
  go_loopw [126] (fun s126 wr => ∃ i : Nat, s126 = .int .i64 (i : Nat) ∧ i ≤ q ∧ Hid (∃ N G, KdSt false R l i cs w w0 wr nb b0 F f g N G)) (fun s126 _ => q - (intOf s126).toNat)
  case atStart => exact ⟨0, rfl, by omega, N, F, HX0.out⟩
  case round =>
    obtain ⟨i, rfl, hi, KG⟩ := hrel
    clear HX0
    obtain ⟨N2, G2, hX⟩ := KG.out
    have HX := hidd hX
    have HSm := hidd (hX.small HS.out)
    clear hX KG
    by_cases hlt : i < q
    · have hil : i < l.length := by rw [HQ.out]; exact hlt
      have kl : decide ((i : Int) < (q : Int)) = true := decide_eq_true (by omega)
      have kl2 : decide (i < q) = true := decide_eq_true hlt
      have HNx := hidd (alt_next HX.out.rest hil)
      obtain ⟨ka, kc, hnq, hdr⟩ := HK.out.kid i hil
      obtain ⟨r, hr⟩ : ∃ r, l.getD i Pat.zero = r := ⟨_, rfl⟩
      rw [hr] at HNx hnq hdr
      obtain ⟨k0, k1, k2, k3, k4, _, _, _, _⟩ := hnq.kept HX.out.st.nt.grew
      have HDr := hidd hdr
      have HDs := hidd HX.out.st
      obtain ⟨rk, hrk⟩ : ∃ rk, r.kids.length = rk := ⟨_, rfl⟩
      rw [hrk] at k4 HDr
      clear HX hnq hdr hil hr hrk
      have HSr : Hid (SmallN (drawP r N2 f g)) := by
        have := HNx.out; rw [if_neg (by decide)] at this
        have hs := HS.out
        rw [← this] at hs
        exact hs.le (alt_growsN _ (grows_map l (i + 1)) _ _ _)
      go_wp2_with fail
      have HD0 := hidd (HDs.out.kept ((Grew.refl wr).alloc (.cells #[.int .i64 r.kind, .string r.text, .int .i64 r.n, .string r.name, .slice ka rk kc] 24)))
      have HBx := hidd (heap_alloc_new wr (.cells #[.int .i64 r.kind, .string r.text, .int .i64 r.n, .string r.name, .slice ka rk kc] 24))
      have HNf : Hid (¬ G2 wr.heap.size) := fun hf => Nat.lt_irrefl _ (HDs.out.nt.lt hf).2
      clear HDs k0 k1 k2 k3 k4
      generalize wr.heap.size = q1 at HBx HNf ⊢
      generalize wr.alloc (.cells #[.int .i64 r.kind, .string r.text, .int .i64 r.n, .string r.name, .slice ka rk kc] 24) = W1 at HBx HD0 ⊢
      have hq1 : q1 < W1.heap.size := (Array.getElem?_eq_some_iff.1 HBx.out).1
      have hB1 := HBx.out
      have m0 : W1.cell? ⟨q1, 0, none⟩ = some (.int .i64 r.kind) := cell_of hB1 0
      have m1 : W1.cell? ⟨q1, 1, none⟩ = some (.string r.text) := cell_of hB1 1
      have m2 : W1.cell? ⟨q1, 2, none⟩ = some (.int .i64 r.n) := cell_of hB1 2
      have m3 : W1.cell? ⟨q1, 3, none⟩ = some (.string r.name) := cell_of hB1 3
      have m4 : W1.cell? ⟨q1, 4, none⟩ = some (.slice ka rk kc) := cell_of hB1 4
      have HC := hidd (HDr.out W1 nb N2 G2 f g HD0.out.nt HSr.out)
      unfold Pat.cells at HC
      clear hB1 HBx HNf
      go_wp2_with fail
      refine HC.out.mono ?_; rintro e w2 ⟨rfl, G4, h4, k4⟩
      have HX4 : Hid (KdSt false R l (i + 1) cs w w0 w2 nb b0 F f g (drawP r N2 f g) G4) := ⟨HNx.out, HD0.out.step h4 k4⟩
      clear h4 k4 HC HD0 m0 m1 m2 m3 m4
      go_wp2_with fail
      exact ⟨⟨i + 1, by simp, by omega, _, _, HX4.out⟩, by simp [intOf]; omega⟩
    · have hie : i = q := by omega
      have kl : decide ((i : Int) < (q : Int)) = false := decide_eq_false (by omega)
      rw [hie, ← HQ.out] at HX
      have HNx := hidd (alt_last HX.out.rest)
      have HDs := hidd HX.out.st
      clear HX
      go_wp2_with fail
      go_end0
      rw [← HNx.out]
      exact HDs.out.end_
theorem draw_k20 (t : ByteArray) (n : Int) (m : ByteArray) (l : List Pat) (b o c : Nat) (w : World) (hK : KidsD w l b o c) (w0 : World) (nb : Nat) (N : NetP) (F : Nat → Prop) (f g : Nat) (hG : NtAt w w0 nb N F) (hS : SmallN (starN (l.map drawP) N f g)) :
    Calls Tryd.prog 35 #[.pointer (some ⟨nb, 0, none⟩), .agg ((Pat.mk 20 t n m l).cells (.slice (some ⟨b, o, none⟩) l.length c)), .int .i64 (f : Nat), .int .i64 (g : Nat)] w0 (DrawTo (starN (l.map drawP) N f g) w w0 nb F) := by
  obtain ⟨ka, kc, hnq, hdr⟩ := hK.kid 0 hK.pos
  obtain ⟨r, hr⟩ : ∃ r, l.getD 0 Pat.zero = r := ⟨_, rfl⟩
  have hst : starN (l.map drawP) N f g = (drawP r ((N.one.one.more f N.places none).more N.places g none) N.places (N.places + 1)).more (N.places + 1) N.places none := by
    have := hK.pos
    cases l with
    | nil => exact absurd this (Nat.lt_irrefl _)
    | cons a l => rw [← hr]; rfl
  rw [hst] at hS ⊢
  rw [hr] at hnq hdr
  have hSr : SmallN (drawP r ((N.one.one.more f N.places none).more N.places g none) N.places (N.places + 1)) := hS.le (more_grows _ _ _ _)
  have hS2 : SmallN ((N.one.one.more f N.places none).more N.places g none) := hSr.le (draw_grows r _ _ _)
  have e1 : ((N.one.one.more f N.places none).more N.places g none).places = N.places + 2 := rfl
  have e2 : ((N.one.one.more f N.places none).more N.places g none).arrows.length = N.arrows.length + 2 := by show ((N.arrows ++ _) ++ _).length = _; simp
  have p1 : Hid (N.places ≤ 100000) := by have := hS2.1; rw [e1] at this; unfold Hid; omega
  have p2 : Hid (N.one.places ≤ 100000) := by have := hS2.1; rw [e1] at this; unfold Hid; show N.places + 1 ≤ _; omega
  have l1 : Hid (N.one.one.arrows.length ≤ 100000) := by have := hS2.2; rw [e2] at this; unfold Hid; show N.arrows.length ≤ _; omega
  have l2 : Hid ((N.one.one.more f N.places none).arrows.length ≤ 100000) := by have := hS2.2; rw [e2] at this; unfold Hid; show (N.arrows ++ _).length ≤ _; simp; omega
  have l3 := hidd hSr.2
  have h0 := hK.pos
  have h1 := hK.le
  have h2 := hK.max
  unfold maxLen at h2
  obtain ⟨kv, hkv⟩ : ∃ kv, kv = Value.slice (some ⟨b, o, none⟩) l.length c := ⟨_, rfl⟩
  rw [← hkv]
  have HD := hidd (DSt.start hG ((Pat.mk 20 t n m l).cells kv))
  have c0 : (w0.alloc (.cells ((Pat.mk 20 t n m l).cells kv) 24)).cell? ⟨w0.heap.size, 0, none⟩ = some (.int .i64 20) := HD.out.c 0
  obtain ⟨b0, hb0⟩ : ∃ b0, w0.heap.size = b0 := ⟨_, rfl⟩
  obtain ⟨W, hW⟩ : ∃ W, w0.alloc (.cells ((Pat.mk 20 t n m l).cells kv) 24) = W := ⟨_, rfl⟩
  rw [hW, hb0] at HD c0
  have hbw : b0 < W.heap.size := (Array.getElem?_eq_some_iff.1 HD.out.box).1
  obtain ⟨cs, hcs⟩ : ∃ cs, (Pat.mk 20 t n m l).cells kv = cs := ⟨_, rfl⟩
  have hcs4 : cs[4]? = some (.slice (some ⟨b, o, none⟩) l.length c) := by rw [← hcs, hkv]; rfl
  rw [hcs] at HD
  obtain ⟨q, hq⟩ : ∃ q, l.length = q := ⟨_, rfl⟩
  rw [hq] at hcs4 h0 h1
  have HC4 := hidd hcs4
  have HNq := hidd hnq
  have HDr := hidd hdr
  have HSr := hidd hSr
  have kl : decide (0 < q) = true := decide_eq_true h0
  clear hG hS hS2 hSr hst hcs hq hkv hK hnq hdr hr e1 e2 hcs4
  unfold Pat.cells at hW ⊢
  dsimp only [Pat.kind, Pat.text, Pat.n, Pat.name] at hW ⊢
  go_enter Tryd.func35, Tryd.ntmps35
  go_wp2_with fail
  clear hW c0 hbw
  refine (HD.out.place p1.out).mono ?_; rintro e w1 ⟨rfl, h1', _⟩
  have HD1 := hidd h1'
  clear h1' HD
  go_wp2_with fail
  refine (HD1.out.place p2.out).mono ?_; rintro e w2 ⟨rfl, h2', _⟩
  have HD2 := hidd h2'
  have hpl : (N.one.places : Int) = (N.places : Int) + 1 := by show ((N.places + 1 : Nat) : Int) = _; simp
  clear h2' HD1
  go_wp2_with fail
  refine (HD2.out.eps l1.out f N.places).mono ?_; rintro e w3 ⟨rfl, G3, h3, _⟩
  have HD3 := hidd h3
  clear h3 HD2
  go_wp2_with fail
  refine (HD3.out.eps l2.out N.places g).mono ?_; rintro e w4 ⟨rfl, G4, h4, _⟩
  have HD4 := hidd h4
  have c4 : w4.cell? ⟨b0, 4, none⟩ = some (.slice (some ⟨b, o, none⟩) q c) := (h4.c 4).trans HC4.out
  have hbw : b0 < w4.heap.size := (Array.getElem?_eq_some_iff.1 h4.box).1
  obtain ⟨k0, k1, k2, k3, k4, _, _, _, _⟩ := HNq.out.kept h4.nt.grew
  obtain ⟨rk, hrk⟩ : ∃ rk, r.kids.length = rk := ⟨_, rfl⟩
  rw [hrk] at k4 HDr
  rw [Nat.zero_mul, Nat.add_zero] at k0 k1 k2 k3 k4
  have HC := hidd (HDr.out w4 nb _ G4 N.places (N.places + 1) h4.nt HSr.out)
  unfold Pat.cells at HC
  have hpl2 : ((N.places + 1 : Nat) : Int) = (N.places : Int) + 1 := by simp
  rw [hpl2] at HC
  clear h4 HD3 hrk
  go_wp2_with (simp only [hpl])
  refine HC.out.mono ?_; rintro e w5 ⟨rfl, G5, h5, k5⟩
  have HD5 := hidd (HD4.out.step h5 k5)
  clear h5 k5 HC k0 k1 k2 k3 k4 c4 hbw HD4
  have HFin := hidd (HD5.out.eps l3.out (N.places + 1) N.places)
  rw [hpl2] at HFin
  go_wp2_with (simp only [hpl])
  refine HFin.out.mono ?_; rintro e w6 ⟨rfl, G6, h6, _⟩
  have HD6 := hidd h6
  clear h6 HD5 HFin
  go_wp2_with fail
  go_end0
  exact HD6.out.end_
theorem draws_of {w : World} {p : Pat} {kv : Value} (hf : fitP p) (hv : PatV w kv p) (hk : 0 < p.kids.length → ∃ b o c, kv = .slice (some ⟨b, o, none⟩) p.kids.length c ∧ KidsD w p.kids b o c) : DrawsAt w p kv := by
  intro w0 nb N F f g hG hS
  obtain ⟨k, t, n, m, l⟩ := p
  rw [fitP] at hf
  have hkids : (k = 18 ∨ k = 19 ∨ k = 20) → ∃ b o c, kv = .slice (some ⟨b, o, none⟩) l.length c ∧ KidsD w l b o c := fun h => hk (hf.2.2.1 h)
  rw [drawP, drawL_map] at hS ⊢
  by_cases h1 : k = 1
  · subst h1
    exact draw_k1 t n m l kv (hf.1 rfl) w w0 nb N F f g hG hS
  by_cases h2 : k = 2
  · subst h2
    exact draw_k2 t n m l kv (hf.2.1 rfl) w w0 nb N F f g hG hS
  by_cases h3 : k = 3
  · subst h3
    exact draw_k3 3 _ t (Or.inl ⟨rfl, rfl⟩) n m l kv hv.ht w w0 nb N F f g hG (hS.le (more_grows N f g _))
  by_cases h4 : k = 4
  · subst h4
    exact draw_k3 4 _ t (Or.inr ⟨rfl, rfl⟩) n m l kv hv.ht w w0 nb N F f g hG (hS.le (more_grows N f g _))
  by_cases h13 : k = 13
  · subst h13
    exact draw_k13 t n m l kv w w0 nb N F f g hG hS
  by_cases h18 : k = 18
  · subst h18
    obtain ⟨b, o, c, rfl, hK⟩ := hkids (Or.inl rfl)
    exact draw_k18 t n m l b o c w hK w0 nb N F f g hG hS
  by_cases h19 : k = 19
  · subst h19
    obtain ⟨b, o, c, rfl, hK⟩ := hkids (Or.inr (Or.inl rfl))
    exact draw_k19 t n m l b o c w hK w0 nb N F f g hG hS
  by_cases h20 : k = 20
  · subst h20
    obtain ⟨b, o, c, rfl, hK⟩ := hkids (Or.inr (Or.inr rfl))
    exact draw_k20 t n m l b o c w hK w0 nb N F f g hG hS
  · have e : drawK k t n (l.map drawP) N f g = N := by
      unfold drawK
      rw [if_neg (by omega), if_neg h3, if_neg h4, if_neg h13, if_neg h18, if_neg h19, if_neg h20]
    rw [e]
    exact draw_other k t n m l ⟨h1, h2, h3, h4, h13, h18, h19, h20⟩ kv w w0 nb N F f g hG
theorem Draw_at {w : World} {b o : Nat} {p : Pat} (hp : PatAt w b o p) : fitP p → ∃ ka kc, NodeAt w b o p (.slice ka p.kids.length kc) ∧ DrawsAt w p (.slice ka p.kids.length kc) := by
  induction hp with
  | leaf b o k t n m a c c0 c1 c2 c3 c4 hk hn ht hm =>
    intro hf
    exact ⟨a, c, ⟨c0, c1, c2, c3, c4, hk, hn, ht, hm⟩, draws_of hf ⟨Or.inl ⟨a, c, rfl, rfl⟩, hk, hn, ht, hm⟩ fun h => absurd h (Nat.lt_irrefl 0)⟩
  | node b o k t n m l b' o' c c0 c1 c2 c3 c4 hk hn ht hm h0 hc hc' hl ih =>
    intro hf
    have hf' := hf
    rw [fitP] at hf'
    exact ⟨_, c, ⟨c0, c1, c2, c3, c4, hk, hn, ht, hm⟩, draws_of hf ⟨Or.inr ⟨b', o', c, rfl, h0, hc, hc', hl⟩, hk, hn, ht, hm⟩ fun _ => ⟨b', o', c, rfl, h0, hc, hc', fun i hi => ih i hi (fitL_get hf'.2.2.2.2 hi)⟩⟩
theorem Draw_any {w : World} {p : Pat} {kv : Value} (hv : PatV w kv p) (hf : fitP p) : DrawsAt w p kv := by
  refine draws_of hf hv fun h => ?_
  obtain ⟨k, t, n, m, l⟩ := p
  rw [fitP] at hf
  rcases hv.kids with ⟨_, _, _, e⟩ | ⟨b', o', c, e1, h0, hc, hc', hl⟩
  · rw [e] at h; exact absurd h (Nat.lt_irrefl 0)
  · exact ⟨b', o', c, e1, h0, hc, hc', fun i hi => Draw_at (hl i hi) (fitL_get hf.2.2.2.2 hi)⟩
end Go.Proofs.YtkkdpafkafjfgaaDoor
