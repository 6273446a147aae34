/- (*places).build at pieces that have kids. Printed by gen-glw.py. -/
import Derived.Test.YtkkdpafkafjfgaaDoorMkGlV
namespace Go.Proofs.YtkkdpafkafjfgaaDoor
open Go.RowKit RR
set_option linter.unusedVariables false
set_option linter.unusedSimpArgs false
set_option maxRecDepth 100000
def loopG (c : Bool) (bs : List Builder) (i : Nat) (o : Part) (g : Gl) : Option Part × Gl := if i = 0 then headG c bs g else kidsG c (bs.drop i) o g
theorem drop_at {α : Type} {l : List α} {i : Nat} {x : α} (h : l[i]? = some x) : l.drop i = x :: l.drop (i + 1) := by
  have hil : i < l.length := (List.getElem?_eq_some_iff.1 h).1
  rw [List.drop_eq_getElem_cons hil]
  congr 1
  have := List.getElem?_eq_getElem hil
  rw [h] at this; exact (Option.some.inj this).symm
theorem loop_none {c : Bool} {bs : List Builder} {i : Nat} {o : Part} {g : Gl} {b : Builder} (hb : bs[i]? = some b) (hn : (b g).1 = none) : loopG c bs i o g = (none, (b g).2) := by
  unfold loopG
  have hd := drop_at hb
  split
  · rename_i h0; subst h0
    rw [List.drop_zero] at hd
    rw [hd, headG, hn]
  · rw [hd, kidsG, hn]
theorem loop_first {c : Bool} {bs : List Builder} {o k : Part} {g : Gl} {b : Builder} (hb : bs[0]? = some b) (hk : (b g).1 = some k) : loopG c bs 0 o g = loopG c bs 1 k (b g).2 := by
  have hd := drop_at hb
  rw [List.drop_zero] at hd
  unfold loopG
  rw [if_pos rfl, if_neg (by decide)]
  conv => lhs; rw [hd]
  rw [headG, hk]
theorem loop_some {c : Bool} {bs : List Builder} {i : Nat} {o k : Part} {g : Gl} {b : Builder} (h0 : i ≠ 0) (hb : bs[i]? = some b) (hk : (b g).1 = some k) : loopG c bs i o g = loopG c bs (i + 1) (op2 c o k (b g).2).1 (op2 c o k (b g).2).2 := by
  have hd := drop_at hb
  unfold loopG
  rw [if_neg h0, if_neg (by omega), hd, kidsG, hk]
theorem loop_end {c : Bool} {bs : List Builder} {i : Nat} {o : Part} {g : Gl} (h0 : i ≠ 0) (h : bs.length ≤ i) : loopG c bs i o g = (some o, g) := by
  unfold loopG
  rw [if_neg h0, List.drop_eq_nil_of_le h]; rfl
structure KidSt (R : Option Part × Gl) (c : Bool) (bs : List Builder) (i : Nat) (w w0 wr : World) (ob : Nat) (F : Nat → Prop) (rs : Nat) (o : Part) (g : Gl) (F' : Nat → Prop) : Prop where
  rest : loopG c bs i o g = R
  inn : InG g o
  gl : GlAt w wr ob g F'
  to : GlTo w0 wr F F'
  res : wr.heap[rs]? = some (.cells (partC o) 69 (0, 0))
  nr : ¬ F' rs
theorem alt_first {o k : Part} (ho : SmallG o) (hk : SmallG k) : bits .or .u32 (o.first : Int) (k.first : Int) = ((o.first ||| k.first : Nat) : Int) ∧ bits .or .u32 (o.last : Int) (k.last : Int) = ((o.last ||| k.last : Nat) : Int) := ⟨or32w ho.first hk.first, or32w ho.last hk.last⟩
set_option maxHeartbeats 4000000 in
theorem build_k18 (t : ByteArray) (n : Int) (m : ByteArray) (l : List Pat) (b o : Nat) (kv : Value) (w : World) (h : BuildIn (.mk 18 t n m l) b o kv w) (w0 : World) (ob : Nat) (g : Gl) (F : Nat → Prop) (hG : GlAt w w0 ob g F) :
    Calls Tryd.prog 26 #[.pointer (some ⟨ob, 0, none⟩), .pointer (some ⟨b, o, none⟩)] w0 (BuildTo (buildP (.mk 18 t n m l) g) w w0 ob F) := by
  have hz := zero_part
  have hz2 := zero_set
  obtain ⟨bs, hbs⟩ : ∃ bs, l.map buildP = bs := ⟨_, rfl⟩
  obtain ⟨R, hR⟩ : ∃ R, headG true bs g = R := ⟨_, rfl⟩
  have HR : Hid (buildP (.mk 18 t n m l) g = R) := by unfold Hid; rw [buildP_eq, ← hR, ← hbs]; rfl
  have HRe : Hid (loopG true bs 0 part0 g = R) := hR
  obtain ⟨L, hL⟩ : ∃ L, l.length = L := ⟨_, rfl⟩
  have hL4 : 0 < L ∧ L ≤ 4096 := by have := h.fit; rw [fitP] at this; rw [← hL]; exact ⟨this.2.2.1 (by omega), this.2.2.2.1⟩
  have HBl : Hid (bs.length = L) := by unfold Hid; rw [← hbs, List.length_map]; exact hL
  have HBi : Hid (∀ i, i < L → bs[i]? = some (buildP (l.getD i Pat.zero)) ∧ InB (buildP (l.getD i Pat.zero))) := fun i hi => by
    refine ⟨?_, build_in _⟩
    rw [← hbs, List.getElem?_map, List.getD_eq_getElem?_getD, List.getElem?_eq_getElem (by omega)]; rfl
  obtain ⟨b', o', kc, hkv, hkc, hkc2, hkids⟩ := h.kids (by show 0 < l.length; omega)
  replace hkc : l.length ≤ kc := hkc
  replace hkv : kv = .slice (some ⟨b', o', none⟩) l.length kc := hkv
  rw [hL] at hkv hkc
  have HK : Hid (∀ i, i < L → ∀ w0 ob g F, GlAt w w0 ob g F → Calls Tryd.prog 26 #[.pointer (some ⟨ob, 0, none⟩), .pointer (some ⟨b', o' + i * 5, none⟩)] w0 (BuildTo (buildP (l.getD i Pat.zero) g) w w0 ob F)) := fun i hi => hkids i (by show i < l.length; omega)
  have HP : Hid (∀ w2, Grew (w0.alloc (.cells (partC part0) 69)) w2 → _) := fun w2 g2 => build_pre h.node hG g2
  have HN := hidd (Not_none (w0.alloc (.cells (partC part0) 69)))
  have HT := hidd h.tab
  have HNd := hidd h.node
  obtain ⟨rs, hrs⟩ : ∃ rs, w0.heap.size = rs := ⟨_, rfl⟩
  rw [hrs] at HP
  subst hkv
  clear h hG hR hkids hbs hL
  go_enter Tryd.func26, Tryd.ntmps26
  go_wp2_with fail
  refine HN.out.mono ?_; rintro e w2 ⟨rfl, g2⟩
  have hp := HP.out w2 g2
  have c0 : ∀ x, (w2.alloc x).cell? ⟨b, o, none⟩ = some (.int .i64 18) := fun x => (hp.node x).c0
  have c4 : ∀ x, (w2.alloc x).cell? ⟨b, o + 4, none⟩ = some (.slice (some ⟨b', o', none⟩) L kc) := fun x => (hp.node x).c4
  have HSt : Hid (∀ x, KidSt R true bs 0 w w0 (w2.alloc x) ob F rs part0 g F) := fun x => ⟨HRe.out, in0 g false, hp.gl x, hp.to x, hp.res x, hp.hr⟩
  have HW : Hid (w.heap.size ≤ w0.heap.size ∧ w0.heap.size ≤ rs) := ⟨hp.lo, hp.lr⟩
  clear hp HP HN g2 hrs HRe
  unfold setV
  go_wp2_with fail
  go_loopw [10, 11, 12, 108] (fun s10 s11 s12 s108 wr => ∃ i : Nat, s108 = .int .i64 (i : Nat) ∧ i ≤ L ∧ Hid (∃ o g F', KidSt R true bs i w w0 wr ob F rs o g F')) (fun _ _ _ s108 _ => L - (intOf s108).toNat)
  case atStart => exact ⟨0, rfl, by omega, _, _, _, HSt.out _⟩
  case round =>
    obtain ⟨i, rfl, hi, KS⟩ := hrel
    clear HSt c0 c4
    obtain ⟨o1, g1, F1, hS⟩ := KS.out
    clear KS
    have HS := hidd hS
    by_cases hlt : i < L
    · have kl : decide ((i : Int) < (L : Int)) = true := decide_eq_true (by omega)
      have HC := hidd (HK.out i hlt wr ob g1 F1 hS.gl)
      obtain ⟨hbi, hbin⟩ := HBi.out i hlt
      have HBx := hidd (And.intro hbi hbin)
      have e4 : wr.cell? ⟨b, o + 4, none⟩ = some (.slice (some ⟨b', o', none⟩) L kc) := (HNd.out.kept hS.gl.grew).c4
      clear hbi hbin hS
      go_wp2_with fail
      refine HC.out.mono ?_
      rintro e w1 ⟨k1, ok, F2, rfl, hR1, hG2, hT2⟩
      obtain ⟨sk, hsk⟩ : ∃ sk, w1.heap.size = sk := ⟨_, rfl⟩
      have hrl : rs < wr.heap.size := (Array.getElem?_eq_some_iff.1 HS.out.res).1
      have HZ : Hid ((w1.alloc (.cells #[.int .u32 0, .int .u32 0, .bool false] 69)).heap[sk]? = some (.cells (partC part0) 69 (0, 0))) := by rw [← hsk]; exact heap_alloc_new w1 _
      obtain ⟨Wk, hWk⟩ : ∃ Wk, (w1.alloc (.cells #[.int .u32 0, .int .u32 0, .bool false] 69)).setRow sk (partC k1) = Wk := ⟨_, rfl⟩
      have hrw := HW.out
      have hgw := HS.out.gl.grew.size
      have hnk : ¬ F2 sk := fun hf => by have := hG2.lt hf; omega
      have hrk : rs < sk := by have := hT2.size; omega
      have HX : Hid (GlAt w Wk ob (buildP (l.getD i Pat.zero) g1).2 F2 ∧ GlTo w0 Wk F F2 ∧ Wk.heap[rs]? = some (.cells (partC o1) 69 (0, 0)) ∧ Wk.heap[sk]? = some (.cells (partC k1) 69 (0, 0)) ∧ ¬ F2 rs ∧ ¬ F2 sk ∧ rs < sk ∧ sk < Wk.heap.size ∧ w.heap.size ≤ rs) := by
        have ga := (Grew.refl w1).alloc (.cells #[.int .u32 0, .int .u32 0, .bool false] 69)
        have hwk : w.heap.size ≤ sk := by have := hG2.grew.size; omega
        have h1 := (hG2.kept ga).setRow hnk hwk (partC k1)
        have h2 := (((HS.out.to.trans hT2).trans (GlTo.grew ga F2)).setRow (show w0.heap.size ≤ sk by omega) (partC k1))
        have h3 : ((w1.alloc (.cells #[.int .u32 0, .int .u32 0, .bool false] 69)).setRow sk (partC k1)).heap[rs]? = some (.cells (partC o1) 69 (0, 0)) := by
          rw [setRow_other _ _ _ _ (by omega)]
          exact heap_kept ga ((hT2.out rs hrl HS.out.nr).trans HS.out.res)
        have h4 := setRow_heap _ sk _ (partC k1) _ _ HZ.out
        rw [hWk] at h1 h2 h3 h4
        exact ⟨h1, h2, h3, h4, hT2.not hrl HS.out.nr, hnk, hrk, (Array.getElem?_eq_some_iff.1 h4).1, by omega⟩
      have e0 : Wk.cell? ⟨b, o, none⟩ = some (.int .i64 18) := (HNd.out.kept HX.out.1.grew).c0
      have HInk : Hid ((buildP (l.getD i Pat.zero) g1).2.sets.length ≥ g1.sets.length ∧ ∀ k, (buildP (l.getD i Pat.zero) g1).1 = some k → InG (buildP (l.getD i Pat.zero) g1).2 k) := (HBx.out.2 g1 HS.out.gl.fits).2
      obtain ⟨bg, hbg⟩ : ∃ bg, buildP (l.getD i Pat.zero) = bg := ⟨_, rfl⟩
      rw [hbg] at HX HBx HInk hR1
      clear hG2 hT2 hnk hrk hrw hgw hrl HC hbg HK
      cases ok
      · have HR1 : Hid ((bg g1).1 = none) := hR1
        clear hR1
        go_wp2_with (first | (rw [hWk]) | (refine wpList_store_part (b := sk) rfl rfl rfl rfl HZ.out rfl rfl (part_one _) ?_) | (refine wpList_load_part (b := rs) rfl rfl rfl HX.out.2.2.1 rfl ?_) | (refine wpList_store_part (b := rs) rfl rfl rfl rfl HX.out.2.2.1 rfl rfl (part_one _) ?_))
        refine bodyPost_ret (results_part2 (p := 4) (q := 5) (rb := rs) (av := partC o1) rfl rfl rfl (setRow_heap _ _ _ _ _ _ HX.out.2.2.1) rfl) rfl ?_
        have hr := HS.out.rest
        rw [loop_none HBx.out.1 HR1.out] at hr
        rw [HR.out]
        subst hr
        exact build_no (R := (none, (bg g1).2)) o1 rfl HX.out.1 HX.out.2.1 HX.out.2.2.2.2.1 HW.out.1 HW.out.2 _
      · have HR1 : Hid ((bg g1).1 = some k1) := hR1
        have HIn := hidd (HInk.out.2 k1 hR1)
        clear hR1
        by_cases hi0 : i = 0
        · subst hi0
          have k0 : (((0 : Nat) : Int) == 0) = true := rfl
          have HNx : Hid (KidSt R true bs (0 + 1) w w0 (Wk.setRow rs (partC k1)) ob F rs k1 (bg g1).2 F2) := by
            have hr := HS.out.rest
            rw [loop_first HBx.out.1 HR1.out] at hr
            exact ⟨hr, HIn.out, HX.out.1.setRow HX.out.2.2.2.2.1 HX.out.2.2.2.2.2.2.2.2 _, HX.out.2.1.setRow HW.out.2 _, setRow_heap _ _ _ _ _ _ HX.out.2.2.1, HX.out.2.2.2.2.1⟩
          go_wp2_with (first | (rw [hWk]) | (refine wpList_store_part (b := sk) rfl rfl rfl rfl HZ.out rfl rfl (part_one _) ?_) | (refine wpList_load_part (b := sk) rfl rfl rfl HX.out.2.2.2.1 rfl ?_) | (refine wpList_store_part (b := rs) rfl rfl rfl rfl HX.out.2.2.1 rfl rfl (part_one _) ?_))
          exact ⟨⟨0 + 1, by simp, by omega, _, _, _, HNx.out⟩, by simp [intOf]; omega⟩
        · have k0 : ((i : Int) == 0) = false := by simp; omega
          have HTh := hidd (Then_any HX.out.1 o1 k1 (HS.out.inn.mono HInk.out.1).last ((HS.out.inn.mono HInk.out.1).small HX.out.1.fits) (HIn.out.small HX.out.1.fits) HT.out)
          go_wp2_with (first | (rw [hWk]) | (refine wpList_store_part (b := sk) rfl rfl rfl rfl HZ.out rfl rfl (part_one _) ?_) | (refine wpList_load_part (b := sk) rfl rfl rfl HX.out.2.2.2.1 rfl ?_) | (refine wpList_load_part (b := rs) rfl rfl rfl HX.out.2.2.1 rfl ?_))
          refine HTh.out.mono ?_; rintro e w3 ⟨rfl, hG3, hT3⟩
          have hrs3 := (hT3.out rs (Nat.lt_trans HX.out.2.2.2.2.2.2.1 HX.out.2.2.2.2.2.2.2.1) HX.out.2.2.2.2.1).trans HX.out.2.2.1
          have HNx : Hid (w3.heap[rs]? = some (.cells (partC o1) 69 (0, 0)) ∧ KidSt R true bs (i + 1) w w0 (w3.setRow rs (partC (thenP o1 k1))) ob F rs (thenP o1 k1) ((bg g1).2.join o1.last k1.first) F2) := by
            have hr := HS.out.rest
            rw [loop_some hi0 HBx.out.1 HR1.out] at hr
            exact ⟨hrs3, hr, op2_in (c := true) (HS.out.inn.mono HInk.out.1) HIn.out, hG3.setRow HX.out.2.2.2.2.1 HX.out.2.2.2.2.2.2.2.2 _, (HX.out.2.1.trans hT3).setRow HW.out.2 _, setRow_heap _ _ _ _ _ _ hrs3, HX.out.2.2.2.2.1⟩
          clear hG3 hT3 hrs3 HTh
          go_wp2_with (refine wpList_store_part (b := rs) rfl rfl rfl rfl HNx.out.1 rfl rfl (part_one _) ?_)
          exact ⟨⟨i + 1, by simp, by omega, _, _, _, HNx.out.2⟩, by simp [intOf]; omega⟩
    · obtain rfl : i = L := by omega
      have kl : decide ((i : Int) < (i : Int)) = false := decide_eq_false (by omega)
      have e0 : wr.cell? ⟨b, o, none⟩ = some (.int .i64 18) := (HNd.out.kept hS.gl.grew).c0
      have HE : Hid (R = (some o1, g1)) := by
        have hr := hS.rest
        rw [loop_end (by omega) (by rw [HBl.out]; omega)] at hr
        exact hr.symm
      clear hS
      go_wp2_with (first | (refine wpList_load_part (b := rs) rfl rfl rfl HS.out.res rfl ?_) | (refine wpList_store_part (b := rs) rfl rfl rfl rfl HS.out.res rfl rfl (part_one _) ?_))
      refine bodyPost_ret (results_part2 (p := 4) (q := 5) (rb := rs) (av := partC o1) rfl rfl rfl (setRow_heap _ _ _ _ _ _ HS.out.res) rfl) rfl ?_
      rw [HR.out, HE.out]
      exact build_end1 (o := o1) rfl HS.out.gl HS.out.to HS.out.nr HW.out.1 HW.out.2 _
set_option maxHeartbeats 4000000 in
theorem build_k19 (t : ByteArray) (n : Int) (m : ByteArray) (l : List Pat) (b o : Nat) (kv : Value) (w : World) (h : BuildIn (.mk 19 t n m l) b o kv w) (w0 : World) (ob : Nat) (g : Gl) (F : Nat → Prop) (hG : GlAt w w0 ob g F) :
    Calls Tryd.prog 26 #[.pointer (some ⟨ob, 0, none⟩), .pointer (some ⟨b, o, none⟩)] w0 (BuildTo (buildP (.mk 19 t n m l) g) w w0 ob F) := by
  have hz := zero_part
  have hz2 := zero_set
  obtain ⟨bs, hbs⟩ : ∃ bs, l.map buildP = bs := ⟨_, rfl⟩
  obtain ⟨R, hR⟩ : ∃ R, headG false bs g = R := ⟨_, rfl⟩
  have HR : Hid (buildP (.mk 19 t n m l) g = R) := by unfold Hid; rw [buildP_eq, ← hR, ← hbs]; rfl
  have HRe : Hid (loopG false bs 0 part0 g = R) := hR
  obtain ⟨L, hL⟩ : ∃ L, l.length = L := ⟨_, rfl⟩
  have hL4 : 0 < L ∧ L ≤ 4096 := by have := h.fit; rw [fitP] at this; rw [← hL]; exact ⟨this.2.2.1 (by omega), this.2.2.2.1⟩
  have HBl : Hid (bs.length = L) := by unfold Hid; rw [← hbs, List.length_map]; exact hL
  have HBi : Hid (∀ i, i < L → bs[i]? = some (buildP (l.getD i Pat.zero)) ∧ InB (buildP (l.getD i Pat.zero))) := fun i hi => by
    refine ⟨?_, build_in _⟩
    rw [← hbs, List.getElem?_map, List.getD_eq_getElem?_getD, List.getElem?_eq_getElem (by omega)]; rfl
  obtain ⟨b', o', kc, hkv, hkc, hkc2, hkids⟩ := h.kids (by show 0 < l.length; omega)
  replace hkc : l.length ≤ kc := hkc
  replace hkv : kv = .slice (some ⟨b', o', none⟩) l.length kc := hkv
  rw [hL] at hkv hkc
  have HK : Hid (∀ i, i < L → ∀ w0 ob g F, GlAt w w0 ob g F → Calls Tryd.prog 26 #[.pointer (some ⟨ob, 0, none⟩), .pointer (some ⟨b', o' + i * 5, none⟩)] w0 (BuildTo (buildP (l.getD i Pat.zero) g) w w0 ob F)) := fun i hi => hkids i (by show i < l.length; omega)
  have HP : Hid (∀ w2, Grew (w0.alloc (.cells (partC part0) 69)) w2 → _) := fun w2 g2 => build_pre h.node hG g2
  have HN := hidd (Not_none (w0.alloc (.cells (partC part0) 69)))
  have HT := hidd h.tab
  have HNd := hidd h.node
  obtain ⟨rs, hrs⟩ : ∃ rs, w0.heap.size = rs := ⟨_, rfl⟩
  rw [hrs] at HP
  subst hkv
  clear h hG hR hkids hbs hL
  go_enter Tryd.func26, Tryd.ntmps26
  go_wp2_with fail
  refine HN.out.mono ?_; rintro e w2 ⟨rfl, g2⟩
  have hp := HP.out w2 g2
  have c0 : ∀ x, (w2.alloc x).cell? ⟨b, o, none⟩ = some (.int .i64 19) := fun x => (hp.node x).c0
  have c4 : ∀ x, (w2.alloc x).cell? ⟨b, o + 4, none⟩ = some (.slice (some ⟨b', o', none⟩) L kc) := fun x => (hp.node x).c4
  have HSt : Hid (∀ x, KidSt R false bs 0 w w0 (w2.alloc x) ob F rs part0 g F) := fun x => ⟨HRe.out, in0 g false, hp.gl x, hp.to x, hp.res x, hp.hr⟩
  have HW : Hid (w.heap.size ≤ w0.heap.size ∧ w0.heap.size ≤ rs) := ⟨hp.lo, hp.lr⟩
  clear hp HP HN g2 hrs HRe
  unfold setV
  go_wp2_with fail
  go_loopw [10, 11, 12, 108] (fun s10 s11 s12 s108 wr => ∃ i : Nat, s108 = .int .i64 (i : Nat) ∧ i ≤ L ∧ Hid (∃ o g F', KidSt R false bs i w w0 wr ob F rs o g F')) (fun _ _ _ s108 _ => L - (intOf s108).toNat)
  case atStart => exact ⟨0, rfl, by omega, _, _, _, HSt.out _⟩
  case round =>
    obtain ⟨i, rfl, hi, KS⟩ := hrel
    clear HSt c0 c4
    obtain ⟨o1, g1, F1, hS⟩ := KS.out
    clear KS
    have HS := hidd hS
    by_cases hlt : i < L
    · have kl : decide ((i : Int) < (L : Int)) = true := decide_eq_true (by omega)
      have HC := hidd (HK.out i hlt wr ob g1 F1 hS.gl)
      obtain ⟨hbi, hbin⟩ := HBi.out i hlt
      have HBx := hidd (And.intro hbi hbin)
      have e4 : wr.cell? ⟨b, o + 4, none⟩ = some (.slice (some ⟨b', o', none⟩) L kc) := (HNd.out.kept hS.gl.grew).c4
      clear hbi hbin hS
      go_wp2_with fail
      refine HC.out.mono ?_
      rintro e w1 ⟨k1, ok, F2, rfl, hR1, hG2, hT2⟩
      obtain ⟨sk, hsk⟩ : ∃ sk, w1.heap.size = sk := ⟨_, rfl⟩
      have hrl : rs < wr.heap.size := (Array.getElem?_eq_some_iff.1 HS.out.res).1
      have HZ : Hid ((w1.alloc (.cells #[.int .u32 0, .int .u32 0, .bool false] 69)).heap[sk]? = some (.cells (partC part0) 69 (0, 0))) := by rw [← hsk]; exact heap_alloc_new w1 _
      obtain ⟨Wk, hWk⟩ : ∃ Wk, (w1.alloc (.cells #[.int .u32 0, .int .u32 0, .bool false] 69)).setRow sk (partC k1) = Wk := ⟨_, rfl⟩
      have hrw := HW.out
      have hgw := HS.out.gl.grew.size
      have hnk : ¬ F2 sk := fun hf => by have := hG2.lt hf; omega
      have hrk : rs < sk := by have := hT2.size; omega
      have HX : Hid (GlAt w Wk ob (buildP (l.getD i Pat.zero) g1).2 F2 ∧ GlTo w0 Wk F F2 ∧ Wk.heap[rs]? = some (.cells (partC o1) 69 (0, 0)) ∧ Wk.heap[sk]? = some (.cells (partC k1) 69 (0, 0)) ∧ ¬ F2 rs ∧ ¬ F2 sk ∧ rs < sk ∧ sk < Wk.heap.size ∧ w.heap.size ≤ rs) := by
        have ga := (Grew.refl w1).alloc (.cells #[.int .u32 0, .int .u32 0, .bool false] 69)
        have hwk : w.heap.size ≤ sk := by have := hG2.grew.size; omega
        have h1 := (hG2.kept ga).setRow hnk hwk (partC k1)
        have h2 := (((HS.out.to.trans hT2).trans (GlTo.grew ga F2)).setRow (show w0.heap.size ≤ sk by omega) (partC k1))
        have h3 : ((w1.alloc (.cells #[.int .u32 0, .int .u32 0, .bool false] 69)).setRow sk (partC k1)).heap[rs]? = some (.cells (partC o1) 69 (0, 0)) := by
          rw [setRow_other _ _ _ _ (by omega)]
          exact heap_kept ga ((hT2.out rs hrl HS.out.nr).trans HS.out.res)
        have h4 := setRow_heap _ sk _ (partC k1) _ _ HZ.out
        rw [hWk] at h1 h2 h3 h4
        exact ⟨h1, h2, h3, h4, hT2.not hrl HS.out.nr, hnk, hrk, (Array.getElem?_eq_some_iff.1 h4).1, by omega⟩
      have e0 : Wk.cell? ⟨b, o, none⟩ = some (.int .i64 19) := (HNd.out.kept HX.out.1.grew).c0
      have HInk : Hid ((buildP (l.getD i Pat.zero) g1).2.sets.length ≥ g1.sets.length ∧ ∀ k, (buildP (l.getD i Pat.zero) g1).1 = some k → InG (buildP (l.getD i Pat.zero) g1).2 k) := (HBx.out.2 g1 HS.out.gl.fits).2
      obtain ⟨bg, hbg⟩ : ∃ bg, buildP (l.getD i Pat.zero) = bg := ⟨_, rfl⟩
      rw [hbg] at HX HBx HInk hR1
      clear hG2 hT2 hnk hrk hrw hgw hrl HC hbg HK
      cases ok
      · have HR1 : Hid ((bg g1).1 = none) := hR1
        clear hR1
        go_wp2_with (first | (rw [hWk]) | (refine wpList_store_part (b := sk) rfl rfl rfl rfl HZ.out rfl rfl (part_one _) ?_) | (refine wpList_load_part (b := rs) rfl rfl rfl HX.out.2.2.1 rfl ?_) | (refine wpList_store_part (b := rs) rfl rfl rfl rfl HX.out.2.2.1 rfl rfl (part_one _) ?_))
        refine bodyPost_ret (results_part2 (p := 4) (q := 5) (rb := rs) (av := partC o1) rfl rfl rfl (setRow_heap _ _ _ _ _ _ HX.out.2.2.1) rfl) rfl ?_
        have hr := HS.out.rest
        rw [loop_none HBx.out.1 HR1.out] at hr
        rw [HR.out]
        subst hr
        exact build_no (R := (none, (bg g1).2)) o1 rfl HX.out.1 HX.out.2.1 HX.out.2.2.2.2.1 HW.out.1 HW.out.2 _
      · have HR1 : Hid ((bg g1).1 = some k1) := hR1
        have HIn := hidd (HInk.out.2 k1 hR1)
        clear hR1
        by_cases hi0 : i = 0
        · subst hi0
          have k0 : (((0 : Nat) : Int) == 0) = true := rfl
          have HNx : Hid (KidSt R false bs (0 + 1) w w0 (Wk.setRow rs (partC k1)) ob F rs k1 (bg g1).2 F2) := by
            have hr := HS.out.rest
            rw [loop_first HBx.out.1 HR1.out] at hr
            exact ⟨hr, HIn.out, HX.out.1.setRow HX.out.2.2.2.2.1 HX.out.2.2.2.2.2.2.2.2 _, HX.out.2.1.setRow HW.out.2 _, setRow_heap _ _ _ _ _ _ HX.out.2.2.1, HX.out.2.2.2.2.1⟩
          go_wp2_with (first | (rw [hWk]) | (refine wpList_store_part (b := sk) rfl rfl rfl rfl HZ.out rfl rfl (part_one _) ?_) | (refine wpList_load_part (b := sk) rfl rfl rfl HX.out.2.2.2.1 rfl ?_) | (refine wpList_store_part (b := rs) rfl rfl rfl rfl HX.out.2.2.1 rfl rfl (part_one _) ?_))
          exact ⟨⟨0 + 1, by simp, by omega, _, _, _, HNx.out⟩, by simp [intOf]; omega⟩
        · have k0 : ((i : Int) == 0) = false := by simp; omega
          have HNx : Hid (KidSt R false bs (i + 1) w w0 (Wk.setRow rs (partC (altP2 o1 k1))) ob F rs (altP2 o1 k1) (bg g1).2 F2) := by
            have hr := HS.out.rest
            rw [loop_some hi0 HBx.out.1 HR1.out] at hr
            exact ⟨hr, op2_in (c := false) (HS.out.inn.mono HInk.out.1) HIn.out, HX.out.1.setRow HX.out.2.2.2.2.1 HX.out.2.2.2.2.2.2.2.2 _, HX.out.2.1.setRow HW.out.2 _, setRow_heap _ _ _ _ _ _ HX.out.2.2.1, HX.out.2.2.2.2.1⟩
          obtain ⟨ha1, ha2⟩ := alt_first ((HS.out.inn.mono HInk.out.1).small HX.out.1.fits) (HIn.out.small HX.out.1.fits)
          have f0 : Wk.cell? ⟨rs, 0, none⟩ = some (.int .u32 (o1.first : Nat)) := cell_of HX.out.2.2.1 0
          have f1 : Wk.cell? ⟨rs, 1, none⟩ = some (.int .u32 (o1.last : Nat)) := cell_of HX.out.2.2.1 1
          have f2 : Wk.cell? ⟨rs, 2, none⟩ = some (.bool o1.null) := cell_of HX.out.2.2.1 2
          have g0 : Wk.cell? ⟨sk, 0, none⟩ = some (.int .u32 (k1.first : Nat)) := cell_of HX.out.2.2.2.1 0
          have g1x : Wk.cell? ⟨sk, 1, none⟩ = some (.int .u32 (k1.last : Nat)) := cell_of HX.out.2.2.2.1 1
          have g2x : Wk.cell? ⟨sk, 2, none⟩ = some (.bool k1.null) := cell_of HX.out.2.2.2.1 2
          have HPc : Hid (partC (altP2 o1 k1) = #[.int .u32 ((o1.first ||| k1.first : Nat) : Int), .int .u32 ((o1.last ||| k1.last : Nat) : Int), .bool (o1.null || k1.null)]) := rfl
          obtain ⟨x1, hx1⟩ : ∃ x1, o1.first ||| k1.first = x1 := ⟨_, rfl⟩
          obtain ⟨x2, hx2⟩ : ∃ x2, o1.last ||| k1.last = x2 := ⟨_, rfl⟩
          rw [hx1] at ha1 HPc
          rw [hx2] at ha2 HPc
          obtain ⟨y1, hy1⟩ : ∃ y1, o1.first = y1 := ⟨_, rfl⟩
          obtain ⟨y2, hy2⟩ : ∃ y2, o1.last = y2 := ⟨_, rfl⟩
          obtain ⟨z1, hz1⟩ : ∃ z1, k1.first = z1 := ⟨_, rfl⟩
          obtain ⟨z2, hz2'⟩ : ∃ z2, k1.last = z2 := ⟨_, rfl⟩
          rw [hy1] at f0 ha1
          rw [hy2] at f1 ha2
          rw [hz1] at g0 ha1
          rw [hz2'] at g1x ha2
          obtain ⟨n1, hn1⟩ : ∃ n1, o1.null = n1 := ⟨_, rfl⟩
          obtain ⟨n2, hn2⟩ : ∃ n2, k1.null = n2 := ⟨_, rfl⟩
          rw [hn1] at f2 HPc
          rw [hn2] at g2x HPc
          rw [HPc.out] at HNx
          have HBb := hidd (part_one k1)
          clear hx1 hx2 hy1 hy2 hz1 hz2' hn1 hn2 HPc
          cases n1 <;> cases n2 <;>
          · go_wp2_with (first | (rw [hWk]) | (refine wpList_store_part (b := sk) rfl rfl rfl rfl HZ.out rfl rfl HBb.out ?_) | (refine wpList_store_part (b := rs) rfl rfl rfl rfl HX.out.2.2.1 rfl rfl (part_ok _ _ _) ?_) | (simp only [ha1, ha2]))
            exact ⟨⟨i + 1, by simp, by omega, _, _, _, HNx.out⟩, by simp [intOf]; omega⟩
    · obtain rfl : i = L := by omega
      have kl : decide ((i : Int) < (i : Int)) = false := decide_eq_false (by omega)
      have e0 : wr.cell? ⟨b, o, none⟩ = some (.int .i64 19) := (HNd.out.kept hS.gl.grew).c0
      have HE : Hid (R = (some o1, g1)) := by
        have hr := hS.rest
        rw [loop_end (by omega) (by rw [HBl.out]; omega)] at hr
        exact hr.symm
      clear hS
      go_wp2_with (first | (refine wpList_load_part (b := rs) rfl rfl rfl HS.out.res rfl ?_) | (refine wpList_store_part (b := rs) rfl rfl rfl rfl HS.out.res rfl rfl (part_one _) ?_))
      refine bodyPost_ret (results_part2 (p := 4) (q := 5) (rb := rs) (av := partC o1) rfl rfl rfl (setRow_heap _ _ _ _ _ _ HS.out.res) rfl) rfl ?_
      rw [HR.out, HE.out]
      exact build_end1 (o := o1) rfl HS.out.gl HS.out.to HS.out.nr HW.out.1 HW.out.2 _
set_option maxHeartbeats 4000000 in
theorem build_k20 (t : ByteArray) (n : Int) (m : ByteArray) (l : List Pat) (b o : Nat) (kv : Value) (w : World) (h : BuildIn (.mk 20 t n m l) b o kv w) (w0 : World) (ob : Nat) (g : Gl) (F : Nat → Prop) (hG : GlAt w w0 ob g F) :
    Calls Tryd.prog 26 #[.pointer (some ⟨ob, 0, none⟩), .pointer (some ⟨b, o, none⟩)] w0 (BuildTo (buildP (.mk 20 t n m l) g) w w0 ob F) := by
  have hz := zero_part
  have hz2 := zero_set
  obtain ⟨bs, hbs⟩ : ∃ bs, l.map buildP = bs := ⟨_, rfl⟩
  obtain ⟨R, hR⟩ : ∃ R, headG false bs g = R := ⟨_, rfl⟩
  have HR : Hid (buildP (.mk 20 t n m l) g = starG R) := by unfold Hid; rw [buildP_eq, ← hR, ← hbs]; rfl
  have HRe : Hid (loopG false bs 0 part0 g = R) := hR
  obtain ⟨L, hL⟩ : ∃ L, l.length = L := ⟨_, rfl⟩
  have hL4 : 0 < L ∧ L ≤ 4096 := by have := h.fit; rw [fitP] at this; rw [← hL]; exact ⟨this.2.2.1 (by omega), this.2.2.2.1⟩
  have HBl : Hid (bs.length = L) := by unfold Hid; rw [← hbs, List.length_map]; exact hL
  have HBi : Hid (∀ i, i < L → bs[i]? = some (buildP (l.getD i Pat.zero)) ∧ InB (buildP (l.getD i Pat.zero))) := fun i hi => by
    refine ⟨?_, build_in _⟩
    rw [← hbs, List.getElem?_map, List.getD_eq_getElem?_getD, List.getElem?_eq_getElem (by omega)]; rfl
  obtain ⟨b', o', kc, hkv, hkc, hkc2, hkids⟩ := h.kids (by show 0 < l.length; omega)
  replace hkc : l.length ≤ kc := hkc
  replace hkv : kv = .slice (some ⟨b', o', none⟩) l.length kc := hkv
  rw [hL] at hkv hkc
  have HK : Hid (∀ i, i < L → ∀ w0 ob g F, GlAt w w0 ob g F → Calls Tryd.prog 26 #[.pointer (some ⟨ob, 0, none⟩), .pointer (some ⟨b', o' + i * 5, none⟩)] w0 (BuildTo (buildP (l.getD i Pat.zero) g) w w0 ob F)) := fun i hi => hkids i (by show i < l.length; omega)
  have HP : Hid (∀ w2, Grew (w0.alloc (.cells (partC part0) 69)) w2 → _) := fun w2 g2 => build_pre h.node hG g2
  have HN := hidd (Not_none (w0.alloc (.cells (partC part0) 69)))
  have HT := hidd h.tab
  have HNd := hidd h.node
  obtain ⟨rs, hrs⟩ : ∃ rs, w0.heap.size = rs := ⟨_, rfl⟩
  rw [hrs] at HP
  subst hkv
  clear h hG hR hkids hbs hL
  go_enter Tryd.func26, Tryd.ntmps26
  go_wp2_with fail
  refine HN.out.mono ?_; rintro e w2 ⟨rfl, g2⟩
  have hp := HP.out w2 g2
  have c0 : ∀ x, (w2.alloc x).cell? ⟨b, o, none⟩ = some (.int .i64 20) := fun x => (hp.node x).c0
  have c4 : ∀ x, (w2.alloc x).cell? ⟨b, o + 4, none⟩ = some (.slice (some ⟨b', o', none⟩) L kc) := fun x => (hp.node x).c4
  have HSt : Hid (∀ x, KidSt R false bs 0 w w0 (w2.alloc x) ob F rs part0 g F) := fun x => ⟨HRe.out, in0 g false, hp.gl x, hp.to x, hp.res x, hp.hr⟩
  have HW : Hid (w.heap.size ≤ w0.heap.size ∧ w0.heap.size ≤ rs) := ⟨hp.lo, hp.lr⟩
  clear hp HP HN g2 hrs HRe
  unfold setV
  go_wp2_with fail
  go_loopw [10, 11, 12, 108] (fun s10 s11 s12 s108 wr => ∃ i : Nat, s108 = .int .i64 (i : Nat) ∧ i ≤ L ∧ Hid (∃ o g F', KidSt R false bs i w w0 wr ob F rs o g F')) (fun _ _ _ s108 _ => L - (intOf s108).toNat)
  case atStart => exact ⟨0, rfl, by omega, _, _, _, HSt.out _⟩
  case round =>
    obtain ⟨i, rfl, hi, KS⟩ := hrel
    clear HSt c0 c4
    obtain ⟨o1, g1, F1, hS⟩ := KS.out
    clear KS
    have HS := hidd hS
    by_cases hlt : i < L
    · have kl : decide ((i : Int) < (L : Int)) = true := decide_eq_true (by omega)
      have HC := hidd (HK.out i hlt wr ob g1 F1 hS.gl)
      obtain ⟨hbi, hbin⟩ := HBi.out i hlt
      have HBx := hidd (And.intro hbi hbin)
      have e4 : wr.cell? ⟨b, o + 4, none⟩ = some (.slice (some ⟨b', o', none⟩) L kc) := (HNd.out.kept hS.gl.grew).c4
      clear hbi hbin hS
      go_wp2_with fail
      refine HC.out.mono ?_
      rintro e w1 ⟨k1, ok, F2, rfl, hR1, hG2, hT2⟩
      obtain ⟨sk, hsk⟩ : ∃ sk, w1.heap.size = sk := ⟨_, rfl⟩
      have hrl : rs < wr.heap.size := (Array.getElem?_eq_some_iff.1 HS.out.res).1
      have HZ : Hid ((w1.alloc (.cells #[.int .u32 0, .int .u32 0, .bool false] 69)).heap[sk]? = some (.cells (partC part0) 69 (0, 0))) := by rw [← hsk]; exact heap_alloc_new w1 _
      obtain ⟨Wk, hWk⟩ : ∃ Wk, (w1.alloc (.cells #[.int .u32 0, .int .u32 0, .bool false] 69)).setRow sk (partC k1) = Wk := ⟨_, rfl⟩
      have hrw := HW.out
      have hgw := HS.out.gl.grew.size
      have hnk : ¬ F2 sk := fun hf => by have := hG2.lt hf; omega
      have hrk : rs < sk := by have := hT2.size; omega
      have HX : Hid (GlAt w Wk ob (buildP (l.getD i Pat.zero) g1).2 F2 ∧ GlTo w0 Wk F F2 ∧ Wk.heap[rs]? = some (.cells (partC o1) 69 (0, 0)) ∧ Wk.heap[sk]? = some (.cells (partC k1) 69 (0, 0)) ∧ ¬ F2 rs ∧ ¬ F2 sk ∧ rs < sk ∧ sk < Wk.heap.size ∧ w.heap.size ≤ rs) := by
        have ga := (Grew.refl w1).alloc (.cells #[.int .u32 0, .int .u32 0, .bool false] 69)
        have hwk : w.heap.size ≤ sk := by have := hG2.grew.size; omega
        have h1 := (hG2.kept ga).setRow hnk hwk (partC k1)
        have h2 := (((HS.out.to.trans hT2).trans (GlTo.grew ga F2)).setRow (show w0.heap.size ≤ sk by omega) (partC k1))
        have h3 : ((w1.alloc (.cells #[.int .u32 0, .int .u32 0, .bool false] 69)).setRow sk (partC k1)).heap[rs]? = some (.cells (partC o1) 69 (0, 0)) := by
          rw [setRow_other _ _ _ _ (by omega)]
          exact heap_kept ga ((hT2.out rs hrl HS.out.nr).trans HS.out.res)
        have h4 := setRow_heap _ sk _ (partC k1) _ _ HZ.out
        rw [hWk] at h1 h2 h3 h4
        exact ⟨h1, h2, h3, h4, hT2.not hrl HS.out.nr, hnk, hrk, (Array.getElem?_eq_some_iff.1 h4).1, by omega⟩
      have e0 : Wk.cell? ⟨b, o, none⟩ = some (.int .i64 20) := (HNd.out.kept HX.out.1.grew).c0
      have HInk : Hid ((buildP (l.getD i Pat.zero) g1).2.sets.length ≥ g1.sets.length ∧ ∀ k, (buildP (l.getD i Pat.zero) g1).1 = some k → InG (buildP (l.getD i Pat.zero) g1).2 k) := (HBx.out.2 g1 HS.out.gl.fits).2
      obtain ⟨bg, hbg⟩ : ∃ bg, buildP (l.getD i Pat.zero) = bg := ⟨_, rfl⟩
      rw [hbg] at HX HBx HInk hR1
      clear hG2 hT2 hnk hrk hrw hgw hrl HC hbg HK
      cases ok
      · have HR1 : Hid ((bg g1).1 = none) := hR1
        clear hR1
        go_wp2_with (first | (rw [hWk]) | (refine wpList_store_part (b := sk) rfl rfl rfl rfl HZ.out rfl rfl (part_one _) ?_) | (refine wpList_load_part (b := rs) rfl rfl rfl HX.out.2.2.1 rfl ?_) | (refine wpList_store_part (b := rs) rfl rfl rfl rfl HX.out.2.2.1 rfl rfl (part_one _) ?_))
        refine bodyPost_ret (results_part2 (p := 4) (q := 5) (rb := rs) (av := partC o1) rfl rfl rfl (setRow_heap _ _ _ _ _ _ HX.out.2.2.1) rfl) rfl ?_
        have hr := HS.out.rest
        rw [loop_none HBx.out.1 HR1.out] at hr
        rw [HR.out]
        subst hr
        exact build_no (R := (none, (bg g1).2)) o1 rfl HX.out.1 HX.out.2.1 HX.out.2.2.2.2.1 HW.out.1 HW.out.2 _
      · have HR1 : Hid ((bg g1).1 = some k1) := hR1
        have HIn := hidd (HInk.out.2 k1 hR1)
        clear hR1
        by_cases hi0 : i = 0
        · subst hi0
          have k0 : (((0 : Nat) : Int) == 0) = true := rfl
          have HNx : Hid (KidSt R false bs (0 + 1) w w0 (Wk.setRow rs (partC k1)) ob F rs k1 (bg g1).2 F2) := by
            have hr := HS.out.rest
            rw [loop_first HBx.out.1 HR1.out] at hr
            exact ⟨hr, HIn.out, HX.out.1.setRow HX.out.2.2.2.2.1 HX.out.2.2.2.2.2.2.2.2 _, HX.out.2.1.setRow HW.out.2 _, setRow_heap _ _ _ _ _ _ HX.out.2.2.1, HX.out.2.2.2.2.1⟩
          go_wp2_with (first | (rw [hWk]) | (refine wpList_store_part (b := sk) rfl rfl rfl rfl HZ.out rfl rfl (part_one _) ?_) | (refine wpList_load_part (b := sk) rfl rfl rfl HX.out.2.2.2.1 rfl ?_) | (refine wpList_store_part (b := rs) rfl rfl rfl rfl HX.out.2.2.1 rfl rfl (part_one _) ?_))
          exact ⟨⟨0 + 1, by simp, by omega, _, _, _, HNx.out⟩, by simp [intOf]; omega⟩
        · have k0 : ((i : Int) == 0) = false := by simp; omega
          have HNx : Hid (KidSt R false bs (i + 1) w w0 (Wk.setRow rs (partC (altP2 o1 k1))) ob F rs (altP2 o1 k1) (bg g1).2 F2) := by
            have hr := HS.out.rest
            rw [loop_some hi0 HBx.out.1 HR1.out] at hr
            exact ⟨hr, op2_in (c := false) (HS.out.inn.mono HInk.out.1) HIn.out, HX.out.1.setRow HX.out.2.2.2.2.1 HX.out.2.2.2.2.2.2.2.2 _, HX.out.2.1.setRow HW.out.2 _, setRow_heap _ _ _ _ _ _ HX.out.2.2.1, HX.out.2.2.2.2.1⟩
          obtain ⟨ha1, ha2⟩ := alt_first ((HS.out.inn.mono HInk.out.1).small HX.out.1.fits) (HIn.out.small HX.out.1.fits)
          have f0 : Wk.cell? ⟨rs, 0, none⟩ = some (.int .u32 (o1.first : Nat)) := cell_of HX.out.2.2.1 0
          have f1 : Wk.cell? ⟨rs, 1, none⟩ = some (.int .u32 (o1.last : Nat)) := cell_of HX.out.2.2.1 1
          have f2 : Wk.cell? ⟨rs, 2, none⟩ = some (.bool o1.null) := cell_of HX.out.2.2.1 2
          have g0 : Wk.cell? ⟨sk, 0, none⟩ = some (.int .u32 (k1.first : Nat)) := cell_of HX.out.2.2.2.1 0
          have g1x : Wk.cell? ⟨sk, 1, none⟩ = some (.int .u32 (k1.last : Nat)) := cell_of HX.out.2.2.2.1 1
          have g2x : Wk.cell? ⟨sk, 2, none⟩ = some (.bool k1.null) := cell_of HX.out.2.2.2.1 2
          have HPc : Hid (partC (altP2 o1 k1) = #[.int .u32 ((o1.first ||| k1.first : Nat) : Int), .int .u32 ((o1.last ||| k1.last : Nat) : Int), .bool (o1.null || k1.null)]) := rfl
          obtain ⟨x1, hx1⟩ : ∃ x1, o1.first ||| k1.first = x1 := ⟨_, rfl⟩
          obtain ⟨x2, hx2⟩ : ∃ x2, o1.last ||| k1.last = x2 := ⟨_, rfl⟩
          rw [hx1] at ha1 HPc
          rw [hx2] at ha2 HPc
          obtain ⟨y1, hy1⟩ : ∃ y1, o1.first = y1 := ⟨_, rfl⟩
          obtain ⟨y2, hy2⟩ : ∃ y2, o1.last = y2 := ⟨_, rfl⟩
          obtain ⟨z1, hz1⟩ : ∃ z1, k1.first = z1 := ⟨_, rfl⟩
          obtain ⟨z2, hz2'⟩ : ∃ z2, k1.last = z2 := ⟨_, rfl⟩
          rw [hy1] at f0 ha1
          rw [hy2] at f1 ha2
          rw [hz1] at g0 ha1
          rw [hz2'] at g1x ha2
          obtain ⟨n1, hn1⟩ : ∃ n1, o1.null = n1 := ⟨_, rfl⟩
          obtain ⟨n2, hn2⟩ : ∃ n2, k1.null = n2 := ⟨_, rfl⟩
          rw [hn1] at f2 HPc
          rw [hn2] at g2x HPc
          rw [HPc.out] at HNx
          have HBb := hidd (part_one k1)
          clear hx1 hx2 hy1 hy2 hz1 hz2' hn1 hn2 HPc
          cases n1 <;> cases n2 <;>
          · go_wp2_with (first | (rw [hWk]) | (refine wpList_store_part (b := sk) rfl rfl rfl rfl HZ.out rfl rfl HBb.out ?_) | (refine wpList_store_part (b := rs) rfl rfl rfl rfl HX.out.2.2.1 rfl rfl (part_ok _ _ _) ?_) | (simp only [ha1, ha2]))
            exact ⟨⟨i + 1, by simp, by omega, _, _, _, HNx.out⟩, by simp [intOf]; omega⟩
    · obtain rfl : i = L := by omega
      have kl : decide ((i : Int) < (i : Int)) = false := decide_eq_false (by omega)
      have e0 : wr.cell? ⟨b, o, none⟩ = some (.int .i64 20) := (HNd.out.kept hS.gl.grew).c0
      have HE : Hid (R = (some o1, g1)) := by
        have hr := hS.rest
        rw [loop_end (by omega) (by rw [HBl.out]; omega)] at hr
        exact hr.symm
      clear hS
      have HA := hidd (Again_any HS.out.gl o1 HS.out.inn.last (HS.out.inn.small HS.out.gl.fits) HT.out)
      go_wp2_with (refine wpList_load_part (b := rs) rfl rfl rfl HS.out.res rfl ?_)
      refine HA.out.mono ?_; rintro e w5 ⟨rfl, hG5, hT5⟩
      have hrl : rs < wr.heap.size := (Array.getElem?_eq_some_iff.1 HS.out.res).1
      have H5 := hidd (And.intro ((hT5.out rs hrl HS.out.nr).trans HS.out.res) (And.intro hG5 (HS.out.to.trans hT5)))
      clear hG5 hT5 HA hrl
      go_wp2_with (first | (refine wpList_load_part (b := rs) rfl rfl rfl (setRow_heap _ _ _ _ _ _ H5.out.1) rfl ?_) | (refine wpList_store_part (b := rs) rfl rfl rfl rfl H5.out.1 rfl rfl (part_one _) ?_) | (refine wpList_store_part (b := rs) rfl rfl rfl rfl (setRow_heap _ _ _ _ _ _ H5.out.1) rfl rfl (part_one _) ?_))
      refine bodyPost_ret (results_part2 (p := 4) (q := 5) (rb := rs) rfl rfl rfl (setRow_heap _ _ _ _ _ _ (setRow_heap _ _ _ _ _ _ H5.out.1)) rfl) rfl ?_
      rw [HR.out, HE.out]
      exact build_end (o := againP o1) rfl H5.out.2.1 H5.out.2.2 HS.out.nr HW.out.1 HW.out.2 _ _
end Go.Proofs.YtkkdpafkafjfgaaDoor
