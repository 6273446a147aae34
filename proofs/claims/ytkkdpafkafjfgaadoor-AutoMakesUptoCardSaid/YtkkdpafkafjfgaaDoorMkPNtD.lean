/- (*Net).Draw at pieces without kids. -/
import Derived.Test.YtkkdpafkafjfgaaDoorMkNtM
namespace Go.Proofs.YtkkdpafkafjfgaaDoor
open Go.RowKit RR
set_option linter.unusedVariables false
set_option linter.unusedSimpArgs false
set_option maxRecDepth 100000
def GrowsN (d : Drw) : Prop := ∀ N f t, N.places ≤ (d N f t).places ∧ N.arrows.length ≤ (d N f t).arrows.length
theorem more_grows (N : NetP) (f t : Nat) (s : Option (Nat → Bool)) : N.places ≤ (N.more f t s).places ∧ N.arrows.length ≤ (N.more f t s).arrows.length := ⟨Nat.le_refl _, by show _ ≤ (N.arrows ++ _).length; rw [List.length_append]; omega⟩
theorem one_growsN (s : Nat → Bool) : GrowsN (oneN s) := fun N f t => more_grows N f t _
theorem cat_growsN : ∀ (l : List Drw), (∀ d ∈ l, GrowsN d) → GrowsN (catN l)
  | [], _, N, f, t => more_grows N f t none
  | d :: l, h, N, f, t => by
    have h1 := h d (by simp) N.one f N.places
    have h2 := cat_growsN l (fun e he => h e (by simp [he])) (d N.one f N.places) N.places t
    rw [catN]
    have e1 : N.one.places = N.places + 1 := rfl
    have e2 : N.one.arrows = N.arrows := rfl
    rw [e1, e2] at h1
    omega
theorem alt_growsN : ∀ (l : List Drw), (∀ d ∈ l, GrowsN d) → GrowsN (altN l)
  | [], _, N, f, t => ⟨Nat.le_refl _, Nat.le_refl _⟩
  | d :: l, h, N, f, t => by
    have h1 := h d (by simp) N f t
    have h2 := alt_growsN l (fun e he => h e (by simp [he])) (d N f t) f t
    rw [altN]
    omega
theorem star_growsN {l : List Drw} (h : ∀ d ∈ l, GrowsN d) : GrowsN (starN l) := fun N f t => by
  cases l with
  | nil => exact ⟨Nat.le_refl _, Nat.le_refl _⟩
  | cons d l =>
    have h1 := h d (by simp) ((N.one.one.more f N.places none).more N.places t none) N.places (N.places + 1)
    have e1 : ((N.one.one.more f N.places none).more N.places t none).places = N.places + 2 := rfl
    have e2 : ((N.one.one.more f N.places none).more N.places t none).arrows.length = N.arrows.length + 2 := by
      show ((N.arrows ++ _) ++ _).length = _
      simp
    have h2 := more_grows (d ((N.one.one.more f N.places none).more N.places t none) N.places (N.places + 1)) (N.places + 1) N.places none
    show N.places ≤ ((d ((N.one.one.more f N.places none).more N.places t none) N.places (N.places + 1)).more (N.places + 1) N.places none).places ∧ _ ≤ ((d ((N.one.one.more f N.places none).more N.places t none) N.places (N.places + 1)).more (N.places + 1) N.places none).arrows.length
    omega
theorem arb_growsN : GrowsN arbN := fun N f t => ⟨Nat.le_succ _, by show _ ≤ (((N.arrows ++ _) ++ _) ++ _).length; simp only [List.length_append]; omega⟩
theorem drawK_grows {k : Int} {t : ByteArray} {n : Int} {ds : List Drw} (h : ∀ d ∈ ds, GrowsN d) : GrowsN (drawK k t n ds) := by
  unfold drawK
  split
  · exact cat_growsN _ fun d hd => by obtain ⟨s, _, rfl⟩ := List.mem_map.1 hd; exact one_growsN s
  split
  · exact one_growsN _
  split
  · exact one_growsN _
  split
  · exact arb_growsN
  split
  · exact cat_growsN _ h
  split
  · exact alt_growsN _ h
  split
  · exact star_growsN h
  · exact fun N f t => ⟨Nat.le_refl _, Nat.le_refl _⟩
mutual
theorem draw_grows : ∀ p : Pat, GrowsN (drawP p)
  | .mk k t n m l => by rw [drawP]; exact drawK_grows (drawL_grows l)
theorem drawL_grows : ∀ (l : List Pat), ∀ d ∈ drawL l, GrowsN d
  | [], d, h => by rw [drawL] at h; cases h
  | p :: l, d, h => by
    rw [drawL] at h
    rcases List.mem_cons.1 h with rfl | h
    · exact draw_grows p
    · exact drawL_grows l d h
end
def SmallN (N : NetP) : Prop := N.places ≤ 100000 ∧ N.arrows.length ≤ 100000
def DrawTo (R : NetP) (w w0 : World) (nb : Nat) (F : Nat → Prop) : Ending → World → Prop := fun e w' => e = .returned (.tuple #[]) ∧ ∃ G, NtAt w w' nb R G ∧ GlTo w0 w' F G
structure DSt (cs : Array Value) (w w0 wr : World) (nb b0 : Nat) (N : NetP) (F G : Nat → Prop) : Prop where
  nt : NtAt w wr nb N G
  «to» : GlTo w0 wr F G
  box : wr.heap[b0]? = some (.cells cs 24 (0, 0))
  nf : ¬ G b0
section
variable {cs : Array Value} {w w0 wr w' : World} {nb b0 : Nat} {N N' : NetP} {F G G' : Nat → Prop}
theorem DSt.kept (h : DSt cs w w0 wr nb b0 N F G) (k : Grew wr w') : DSt cs w w0 w' nb b0 N F G := ⟨h.nt.kept k, h.to.trans (GlTo.grew k G), heap_kept k h.box, h.nf⟩
theorem DSt.step (h : DSt cs w w0 wr nb b0 N F G) (h1 : NtAt w w' nb N' G') (h2 : GlTo wr w' G G') : DSt cs w w0 w' nb b0 N' F G' :=
  have hb := (Array.getElem?_eq_some_iff.1 h.box).1
  ⟨h1, h.to.trans h2, (h2.out b0 hb h.nf).trans h.box, h2.not hb h.nf⟩
theorem DSt.start (h : NtAt w w0 nb N F) (cs : Array Value) : DSt cs w w0 (w0.alloc (.cells cs 24)) nb w0.heap.size N F F :=
  have g := (Grew.refl w0).alloc (.cells cs 24)
  ⟨h.kept g, GlTo.grew g F, heap_alloc_new w0 _, fun hf => Nat.lt_irrefl _ (h.lt hf).2⟩
theorem DSt.end_ (h : DSt cs w w0 wr nb b0 N F G) : DrawTo N w w0 nb F (.returned (.tuple #[])) wr := ⟨rfl, G, h.nt, h.to⟩
theorem DSt.arrow (h : DSt cs w w0 wr nb b0 N F G) (hN : N.arrows.length ≤ 100000) (f t : Nat) (s : Option (Nat → Bool)) (ob : Option Nat) (hs : ByAt w wr G s ob) :
    Calls Tryd.prog 67 #[.pointer (some ⟨nb, 0, none⟩), .int .i64 (f : Nat), .int .i64 (t : Nat), byV ob] wr fun e w' => e = .returned (.tuple #[]) ∧ ∃ G', DSt cs w w0 w' nb b0 (N.more f t s) F G' ∧ GlTo wr w' G G' :=
  (Arrow_any h.nt hN f t s ob hs).mono fun e w' ⟨h1, G', h2, h3⟩ => ⟨h1, G', h.step h2 h3, h3⟩
theorem DSt.eps (h : DSt cs w w0 wr nb b0 N F G) (hN : N.arrows.length ≤ 100000) (f t : Nat) :
    Calls Tryd.prog 67 #[.pointer (some ⟨nb, 0, none⟩), .int .i64 (f : Nat), .int .i64 (t : Nat), .pointer none] wr fun e w' => e = .returned (.tuple #[]) ∧ ∃ G', DSt cs w w0 w' nb b0 (N.more f t none) F G' ∧ GlTo wr w' G G' :=
  h.arrow hN f t none none trivial
theorem DSt.place (h : DSt cs w w0 wr nb b0 N F G) (hN : N.places ≤ 100000) :
    Calls Tryd.prog 66 #[.pointer (some ⟨nb, 0, none⟩)] wr fun e w' => e = .returned (.int .i64 (N.places : Nat)) ∧ DSt cs w w0 w' nb b0 N.one F G ∧ GlTo wr w' G G :=
  (Place_any h.nt hN).mono fun e w' ⟨h1, h2, h3⟩ => ⟨h1, h.step h2 h3, h3⟩
theorem DSt.made (h : DSt cs w w0 wr nb b0 N F G) (g : Grew wr w') {b : Nat} (hb : wr.heap.size ≤ b) (hl : b < w'.heap.size) {s : Nat → Bool} (hA : ArrAt w' b 0 256 (fun j => .bool (s j))) : ByAt w w' G (some s) (some b) :=
  ⟨Nat.le_trans h.nt.grew.size hb, fun hg => by have := (h.nt.lt hg).2; omega, hl, hA⟩
theorem DSt.c (h : DSt cs w w0 wr nb b0 N F G) (i : Nat) : wr.cell? ⟨b0, i, none⟩ = cs[i]? := cell_of h.box i
end
theorem draw_k3 (k : Int) (s : Nat → Bool) (t : ByteArray) (hk : k = 3 ∧ s = someB t ∨ k = 4 ∧ s = notB (someB t)) (n : Int) (m : ByteArray) (l : List Pat) (kv : Value) (ht : t.size ≤ maxLen) (w w0 : World) (nb : Nat) (N : NetP) (F : Nat → Prop) (f g : Nat) (hG : NtAt w w0 nb N F) (hS : SmallN N) :
    Calls Tryd.prog 35 #[.pointer (some ⟨nb, 0, none⟩), .agg ((Pat.mk k t n m l).cells kv), .int .i64 (f : Nat), .int .i64 (g : Nat)] w0 (DrawTo (N.more f g (some s)) w w0 nb F) := by
  have HD := hidd (DSt.start hG ((Pat.mk k t n m l).cells kv))
  have HS := hidd hS.2
  have HT := hidd ht
  have c0 : (w0.alloc (.cells ((Pat.mk k t n m l).cells kv) 24)).cell? ⟨w0.heap.size, 0, none⟩ = some (.int .i64 k) := HD.out.c 0
  have c1 : (w0.alloc (.cells ((Pat.mk k t n m l).cells kv) 24)).cell? ⟨w0.heap.size, 1, none⟩ = some (.string t) := HD.out.c 1
  obtain ⟨b0, hb0⟩ : ∃ b0, w0.heap.size = b0 := ⟨_, rfl⟩
  obtain ⟨W, hW⟩ : ∃ W, w0.alloc (.cells ((Pat.mk k t n m l).cells kv) 24) = W := ⟨_, rfl⟩
  rw [hW, hb0] at HD c0 c1
  have hbw : b0 < W.heap.size := (Array.getElem?_eq_some_iff.1 HD.out.box).1
  clear hG hS ht
  unfold Pat.cells at hW ⊢
  dsimp only [Pat.kind, Pat.text, Pat.n, Pat.name] at hW ⊢
  rcases hk with ⟨rfl, rfl⟩ | ⟨rfl, rfl⟩
  · have HSo := hidd (Some_any t true W HT.out)
    rw [if_pos rfl] at HSo
    go_enter Tryd.func35, Tryd.ntmps35
    go_wp2_with fail
    refine HSo.out.mono ?_; rintro e w2 ⟨b, rfl, g2, h1, h2, h3⟩
    have HB := hidd (HD.out.made g2 h1 h2 h3)
    have HD2 := hidd (HD.out.kept g2)
    clear hW c0 c1 hbw HSo HD g2 h1 h2 h3
    go_wp2_with fail
    refine (HD2.out.arrow HS.out f g _ (some b) HB.out).mono ?_; rintro e w3 ⟨rfl, G, h3, _⟩
    have HD3 := hidd h3
    clear h3 HD2 HB
    go_wp2_with fail
    go_end0
    exact HD3.out.end_
  · have HSo := hidd (Some_any t false W HT.out)
    rw [if_neg (by decide)] at HSo
    go_enter Tryd.func35, Tryd.ntmps35
    go_wp2_with fail
    refine HSo.out.mono ?_; rintro e w2 ⟨b, rfl, g2, h1, h2, h3⟩
    have HB := hidd (HD.out.made g2 h1 h2 h3)
    have HD2 := hidd (HD.out.kept g2)
    clear hW c0 c1 hbw HSo HD g2 h1 h2 h3
    go_wp2_with fail
    refine (HD2.out.arrow HS.out f g _ (some b) HB.out).mono ?_; rintro e w3 ⟨rfl, G, h3, _⟩
    have HD3 := hidd h3
    clear h3 HD2 HB
    go_wp2_with fail
    go_end0
    exact HD3.out.end_
theorem draw_k13 (t : ByteArray) (n : Int) (m : ByteArray) (l : List Pat) (kv : Value) (w w0 : World) (nb : Nat) (N : NetP) (F : Nat → Prop) (f g : Nat) (hG : NtAt w w0 nb N F) (hS : SmallN (arbN N f g)) :
    Calls Tryd.prog 35 #[.pointer (some ⟨nb, 0, none⟩), .agg ((Pat.mk 13 t n m l).cells kv), .int .i64 (f : Nat), .int .i64 (g : Nat)] w0 (DrawTo (arbN N f g) w w0 nb F) := by
  have HD := hidd (DSt.start hG ((Pat.mk 13 t n m l).cells kv))
  have hn : (arbN N f g).arrows.length = N.arrows.length + 3 := by show (((N.arrows ++ _) ++ _) ++ _).length = _; simp
  have hS2 := hS.2
  rw [hn] at hS2
  have HS := hidd hS2
  have HP : Hid (N.places ≤ 100000) := by have h := hS.1; have e : (arbN N f g).places = N.places + 1 := rfl; rw [e] at h; unfold Hid; omega
  have c0 : (w0.alloc (.cells ((Pat.mk 13 t n m l).cells kv) 24)).cell? ⟨w0.heap.size, 0, none⟩ = some (.int .i64 13) := HD.out.c 0
  obtain ⟨b0, hb0⟩ : ∃ b0, w0.heap.size = b0 := ⟨_, rfl⟩
  obtain ⟨W, hW⟩ : ∃ W, w0.alloc (.cells ((Pat.mk 13 t n m l).cells kv) 24) = W := ⟨_, rfl⟩
  rw [hW, hb0] at HD c0
  have hbw : b0 < W.heap.size := (Array.getElem?_eq_some_iff.1 HD.out.box).1
  have HR : Hid (((N.one.more f N.places none).more N.places N.places (some allB)).more N.places g none = arbN N f g) := rfl
  obtain ⟨R, hR⟩ : ∃ R, arbN N f g = R := ⟨_, rfl⟩
  rw [hR] at HR ⊢
  have l1 : Hid (N.one.arrows.length ≤ 100000) := by have := HS.out; unfold Hid; show N.arrows.length ≤ _; omega
  have l2 : Hid ((N.one.more f N.places none).arrows.length ≤ 100000) := by have := HS.out; unfold Hid; show (N.arrows ++ _).length ≤ _; simp; omega
  have l3 : Hid (((N.one.more f N.places none).more N.places N.places (some allB)).arrows.length ≤ 100000) := by have := HS.out; unfold Hid; show ((N.arrows ++ _) ++ _).length ≤ _; simp; omega
  have HE : Hid ((if false = true then someB ⟨#[]⟩ else notB (someB ⟨#[]⟩)) = allB) := by unfold Hid; rw [if_neg (by decide)]; rfl
  clear hG hS hS2 hn hR HS
  unfold Pat.cells at hW ⊢
  dsimp only [Pat.kind, Pat.text, Pat.n, Pat.name] at hW ⊢
  go_enter Tryd.func35, Tryd.ntmps35
  go_wp2_with fail
  refine (HD.out.place HP.out).mono ?_; rintro e w1 ⟨rfl, h1, _⟩
  have HD1 := hidd h1
  clear h1 HD hW c0 hbw
  go_wp2_with fail
  refine (HD1.out.eps l1.out f N.places).mono ?_; rintro e w2 ⟨rfl, G2, h2, _⟩
  have HD2 := hidd h2
  clear h2 HD1
  go_wp2_with fail
  refine (Some_any ⟨#[]⟩ false w2 (Nat.zero_le _)).mono ?_; rintro e w3 ⟨b, rfl, g3, h1, h2, h3⟩
  rw [HE.out] at h3
  have HB := hidd (HD2.out.made g3 h1 h2 h3)
  have HD3 := hidd (HD2.out.kept g3)
  clear HD2 g3 h1 h2 h3
  go_wp2_with fail
  refine (HD3.out.arrow l2.out N.places N.places _ (some b) HB.out).mono ?_; rintro e w4 ⟨rfl, G4, h4, _⟩
  have HD4 := hidd h4
  clear h4 HD3 HB
  go_wp2_with fail
  refine (HD4.out.eps l3.out N.places g).mono ?_; rintro e w5 ⟨rfl, G5, h5, _⟩
  have HD5 := hidd h5
  clear h5 HD4
  go_wp2_with fail
  go_end0
  rw [← HR.out]
  exact HD5.out.end_
theorem draw_other (k : Int) (t : ByteArray) (n : Int) (m : ByteArray) (l : List Pat) (hk : k ≠ 1 ∧ k ≠ 2 ∧ k ≠ 3 ∧ k ≠ 4 ∧ k ≠ 13 ∧ k ≠ 18 ∧ k ≠ 19 ∧ k ≠ 20) (kv : Value) (w w0 : World) (nb : Nat) (N : NetP) (F : Nat → Prop) (f g : Nat) (hG : NtAt w w0 nb N F) :
    Calls Tryd.prog 35 #[.pointer (some ⟨nb, 0, none⟩), .agg ((Pat.mk k t n m l).cells kv), .int .i64 (f : Nat), .int .i64 (g : Nat)] w0 (DrawTo N w w0 nb F) := by
  obtain ⟨k1, k2, k3, k4, k13, k18, k19, k20⟩ := hk
  have HD := hidd (DSt.start hG ((Pat.mk k t n m l).cells kv))
  have q1 : (k == 1) = false := by simpa using k1
  have q2 : (k == 2) = false := by simpa using k2
  have q3 : (k == 3) = false := by simpa using k3
  have q4 : (k == 4) = false := by simpa using k4
  have q13 : (k == 13) = false := by simpa using k13
  have q18 : (k == 18) = false := by simpa using k18
  have q19 : (k == 19) = false := by simpa using k19
  have q20 : (k == 20) = false := by simpa using k20
  clear k1 k2 k3 k4 k13 k18 k19 k20
  have c0 : (w0.alloc (.cells ((Pat.mk k t n m l).cells kv) 24)).cell? ⟨w0.heap.size, 0, none⟩ = some (.int .i64 k) := HD.out.c 0
  obtain ⟨b0, hb0⟩ : ∃ b0, w0.heap.size = b0 := ⟨_, rfl⟩
  obtain ⟨W, hW⟩ : ∃ W, w0.alloc (.cells ((Pat.mk k t n m l).cells kv) 24) = W := ⟨_, rfl⟩
  rw [hW, hb0] at HD c0
  have hbw : b0 < W.heap.size := (Array.getElem?_eq_some_iff.1 HD.out.box).1
  clear hG
  unfold Pat.cells at hW ⊢
  dsimp only [Pat.kind, Pat.text, Pat.n, Pat.name] at hW ⊢
  go_enter Tryd.func35, Tryd.ntmps35
  go_wp2_with fail
  go_end0
  exact HD.out.end_
end Go.Proofs.YtkkdpafkafjfgaaDoor

namespace Go.Proofs.YtkkdpafkafjfgaaDoor
open Go.RowKit RR
set_option linter.unusedVariables false
set_option linter.unusedSimpArgs false
set_option maxRecDepth 100000
theorem someB_one (c : UInt8) : someB ⟨#[c]⟩ = one1 c := by funext j; simp [someB, one1]
theorem bytes_one (w : World) (c : UInt8) : BytesAt (w.alloc (.cells #[.int .u8 (c.toNat : Int)] 5)) w.heap.size 0 [c] := by
  refine ArrAt.new w _ _ _ _ fun j hj => ?_
  have : j = 0 := by simpa using hj
  subst this; rfl
structure LtSt (R : NetP) (ls : List (Nat → Bool)) (i : Nat) (cs : Array Value) (w w0 wr : World) (nb b0 : Nat) (F : Nat → Prop) (f g : Nat) (N : NetP) (G : Nat → Prop) : Prop where
  rest : catN ((ls.drop i).map oneN) N f g = R
  st : DSt cs w w0 wr nb b0 N F G
theorem LtSt.small {R : NetP} {ls : List (Nat → Bool)} {i : Nat} {cs : Array Value} {w w0 wr : World} {nb b0 : Nat} {F : Nat → Prop} {f g : Nat} {N : NetP} {G : Nat → Prop} (h : LtSt R ls i cs w w0 wr nb b0 F f g N G) (hR : SmallN R) : SmallN N := by
  have k := cat_growsN ((ls.drop i).map oneN) (fun d hd => by obtain ⟨s, _, rfl⟩ := List.mem_map.1 hd; exact one_growsN s) N f g
  rw [h.rest] at k
  exact ⟨Nat.le_trans k.1 hR.1, Nat.le_trans k.2 hR.2⟩
theorem LtSt.next {R : NetP} {ls : List (Nat → Bool)} {i : Nat} {cs : Array Value} {w w0 wr : World} {nb b0 : Nat} {F : Nat → Prop} {f g : Nat} {N : NetP} {G : Nat → Prop} (h : LtSt R ls i cs w w0 wr nb b0 F f g N G) {s : Nat → Bool} (hs : ls[i]? = some s) : catN ((ls.drop (i + 1)).map oneN) (N.one.more f N.places (some s)) N.places g = R := by
  have hil : i < ls.length := (List.getElem?_eq_some_iff.1 hs).1
  have hd : ls.drop i = s :: ls.drop (i + 1) := by
    rw [List.drop_eq_getElem_cons hil]
    congr 1
    have := List.getElem?_eq_getElem hil
    rw [hs] at this; exact (Option.some.inj this).symm
  have hr := h.rest
  rw [hd, List.map_cons, catN] at hr
  exact hr
theorem LtSt.last {R : NetP} {ls : List (Nat → Bool)} {cs : Array Value} {w w0 wr : World} {nb b0 : Nat} {F : Nat → Prop} {f g : Nat} {N : NetP} {G : Nat → Prop} (h : LtSt R ls ls.length cs w w0 wr nb b0 F f g N G) : N.more f g none = R := by
  have hr := h.rest
  rw [List.drop_length] at hr
  exact hr
theorem draw_k2 (t : ByteArray) (n : Int) (m : ByteArray) (l : List Pat) (kv : Value) (hn : 0 ≤ n ∧ n ≤ 65536) (w w0 : World) (nb : Nat) (N : NetP) (F : Nat → Prop) (f g : Nat) (hG : NtAt w w0 nb N F) (hS : SmallN (catN ((litsOf 2 t n).map oneN) N f g)) :
    Calls Tryd.prog 35 #[.pointer (some ⟨nb, 0, none⟩), .agg ((Pat.mk 2 t n m l).cells kv), .int .i64 (f : Nat), .int .i64 (g : Nat)] w0 (DrawTo (catN ((litsOf 2 t n).map oneN) N f g) w w0 nb F) := by
  obtain ⟨R, hR⟩ : ∃ R, catN ((litsOf 2 t n).map oneN) N f g = R := ⟨_, rfl⟩
  rw [hR] at hS ⊢
  obtain ⟨q, rfl⟩ : ∃ q : Nat, n = q := ⟨n.toNat, by omega⟩
  have hq6 : q ≤ 65536 := by omega
  have hls : litsOf 2 t (q : Int) = List.replicate q allB := rfl
  rw [hls] at hR
  have HI : Hid (∀ i, i < q → (List.replicate q allB)[i]? = some allB) := fun i hi => by rw [List.getElem?_replicate, if_pos hi]
  have HL : Hid ((List.replicate q allB).length = q) := List.length_replicate
  have HD := hidd (DSt.start hG ((Pat.mk 2 t (q : Int) m l).cells kv))
  have HS := hidd hS
  have c0 : (w0.alloc (.cells ((Pat.mk 2 t (q : Int) m l).cells kv) 24)).cell? ⟨w0.heap.size, 0, none⟩ = some (.int .i64 2) := HD.out.c 0
  obtain ⟨b0, hb0⟩ : ∃ b0, w0.heap.size = b0 := ⟨_, rfl⟩
  obtain ⟨W, hW⟩ : ∃ W, w0.alloc (.cells ((Pat.mk 2 t (q : Int) m l).cells kv) 24) = W := ⟨_, rfl⟩
  rw [hW, hb0] at HD c0
  have hbw : b0 < W.heap.size := (Array.getElem?_eq_some_iff.1 HD.out.box).1
  obtain ⟨cs, hcs⟩ : ∃ cs, (Pat.mk 2 t (q : Int) m l).cells kv = cs := ⟨_, rfl⟩
  have hcs2 : Hid (cs[2]? = some (.int .i64 (q : Nat))) := by rw [← hcs]; rfl
  have HX0 : Hid (LtSt R (List.replicate q allB) 0 cs w w0 W nb b0 F f g N F) := ⟨hR, by rw [← hcs]; exact HD.out⟩
  have HE : Hid ((if false = true then someB ⟨#[]⟩ else notB (someB ⟨#[]⟩)) = allB) := by unfold Hid; rw [if_neg (by decide)]; rfl
  generalize List.replicate q allB = ls at HX0 HI HL
  clear hG hS hR hn hls HD hcs
  unfold Pat.cells at hW ⊢
  dsimp only [Pat.kind, Pat.text, Pat.n, Pat.name] at hW ⊢
  go_enter Tryd.func35, Tryd.ntmps35
  go_wp2_with fail
  clear hW c0 hbw
  go_loopw [2, 11] (fun s2 s11 wr => ∃ i f : Nat, s11 = .int .i64 (i : Nat) ∧ i ≤ q ∧ s2 = .int .i64 (f : Nat) ∧ Hid (∃ N G, LtSt R ls i cs w w0 wr nb b0 F f g N G)) (fun _ s11 _ => q - (intOf s11).toNat)
  case atStart => exact ⟨0, f, rfl, by omega, rfl, N, F, HX0.out⟩
  case round =>
    obtain ⟨i, f2, rfl, hi, rfl, KG⟩ := hrel
    clear HX0
    obtain ⟨N2, G2, hX⟩ := KG.out
    have HX := hidd hX
    have c2 : wr.cell? ⟨b0, 2, none⟩ = some (.int .i64 (q : Nat)) := (hX.st.c 2).trans hcs2.out
    have hbw : b0 < wr.heap.size := (Array.getElem?_eq_some_iff.1 hX.st.box).1
    have HSm := hidd (hX.small HS.out)
    clear hX KG
    by_cases hlt : i < q
    · have kl : decide ((i : Int) < (q : Int)) = true := decide_eq_true (by omega)
      have HNx := hidd (HX.out.next (HI.out i hlt))
      have HDs := hidd HX.out.st
      have l1 : Hid (N2.one.arrows.length ≤ 100000) := HSm.out.2
      clear HX
      go_wp2_with fail
      refine (HDs.out.place HSm.out.1).mono ?_; rintro e w1 ⟨rfl, h1, _⟩
      have HD1 := hidd h1
      clear h1 HDs c2 hbw
      go_wp2_with fail
      refine (Some_any ⟨#[]⟩ false w1 (Nat.zero_le _)).mono ?_; rintro e w3 ⟨b, rfl, g3, h1, h2, h3⟩
      rw [HE.out] at h3
      have HB := hidd (HD1.out.made g3 h1 h2 h3)
      have HD3 := hidd (HD1.out.kept g3)
      clear HD1 g3 h1 h2 h3
      go_wp2_with fail
      refine (HD3.out.arrow l1.out f2 N2.places _ (some b) HB.out).mono ?_; rintro e w4 ⟨rfl, G4, h4, _⟩
      have HX4 : Hid (LtSt R ls (i + 1) cs w w0 w4 nb b0 F N2.places g (N2.one.more f2 N2.places (some allB)) G4) := ⟨HNx.out, h4⟩
      clear h4 HD3 HB
      go_wp2_with fail
      exact ⟨⟨i + 1, N2.places, by simp, by omega, rfl, _, _, HX4.out⟩, by simp [intOf]; omega⟩
    · have hie : i = q := by omega
      have kl : decide ((i : Int) < (q : Int)) = false := decide_eq_false (by omega)
      rw [hie, ← HL.out] at HX
      have HNx := hidd HX.out.last
      have HDs := hidd HX.out.st
      clear HX
      go_wp2_with fail
      refine (HDs.out.eps HSm.out.2 f2 g).mono ?_; rintro e w4 ⟨rfl, G4, h4, _⟩
      have HD4 := hidd h4
      clear h4 HDs
      go_wp2_with fail
      go_end0
      rw [← HNx.out]
      exact HD4.out.end_
theorem draw_k1 (t : ByteArray) (n : Int) (m : ByteArray) (l : List Pat) (kv : Value) (ht : t.size ≤ 65536) (w w0 : World) (nb : Nat) (N : NetP) (F : Nat → Prop) (f g : Nat) (hG : NtAt w w0 nb N F) (hS : SmallN (catN ((litsOf 1 t n).map oneN) N f g)) :
    Calls Tryd.prog 35 #[.pointer (some ⟨nb, 0, none⟩), .agg ((Pat.mk 1 t n m l).cells kv), .int .i64 (f : Nat), .int .i64 (g : Nat)] w0 (DrawTo (catN ((litsOf 1 t n).map oneN) N f g) w w0 nb F) := by
  obtain ⟨R, hR⟩ : ∃ R, catN ((litsOf 1 t n).map oneN) N f g = R := ⟨_, rfl⟩
  rw [hR] at hS ⊢
  have hls : litsOf 1 t n = t.data.toList.map one1 := rfl
  rw [hls] at hR
  have HI : Hid (∀ i (hi : i < t.size), (t.data.toList.map one1)[i]? = some (one1 (t.data.toList[i]'hi))) := fun i hi => by
    rw [List.getElem?_map, List.getElem?_eq_getElem (show i < t.data.toList.length from hi)]; rfl
  have HL : Hid ((t.data.toList.map one1).length = t.size) := by unfold Hid; rw [List.length_map]; exact Array.length_toList
  have HD := hidd (DSt.start hG ((Pat.mk 1 t n m l).cells kv))
  have HS := hidd hS
  have c0 : (w0.alloc (.cells ((Pat.mk 1 t n m l).cells kv) 24)).cell? ⟨w0.heap.size, 0, none⟩ = some (.int .i64 1) := HD.out.c 0
  have c1 : (w0.alloc (.cells ((Pat.mk 1 t n m l).cells kv) 24)).cell? ⟨w0.heap.size, 1, none⟩ = some (.string t) := HD.out.c 1
  obtain ⟨b0, hb0⟩ : ∃ b0, w0.heap.size = b0 := ⟨_, rfl⟩
  obtain ⟨W, hW⟩ : ∃ W, w0.alloc (.cells ((Pat.mk 1 t n m l).cells kv) 24) = W := ⟨_, rfl⟩
  rw [hW, hb0] at HD c0 c1
  have hbw : b0 < W.heap.size := (Array.getElem?_eq_some_iff.1 HD.out.box).1
  obtain ⟨cs, hcs⟩ : ∃ cs, (Pat.mk 1 t n m l).cells kv = cs := ⟨_, rfl⟩
  have HX0 : Hid (LtSt R (t.data.toList.map one1) 0 cs w w0 W nb b0 F f g N F) := ⟨hR, by rw [← hcs]; exact HD.out⟩
  have hb1 := fun w0 : World => bytesOf w0 t
  generalize t.data.toList.map one1 = ls at HX0 HI HL
  clear hG hS hR hls HD hcs
  unfold Pat.cells at hW ⊢
  dsimp only [Pat.kind, Pat.text, Pat.n, Pat.name] at hW ⊢
  go_enter Tryd.func35, Tryd.ntmps35
  go_wp2_with fail
  clear hW c0 c1 hbw hb1
  generalize grownCap W t.size 0 5 = cap
  have HP : Hid (Grew W (W.alloc (.cells (bytesRow t cap) 5 ((bytesRow t cap).size, (bytesRow t cap).size + 1))).drew ∧ BytesAt (W.alloc (.cells (bytesRow t cap) 5 ((bytesRow t cap).size, (bytesRow t cap).size + 1))).drew W.heap.size 0 t.data.toList) :=
    ⟨((Grew.refl W).alloc _).drew, (bytesAt_row W t cap 5).drew⟩
  generalize (W.alloc (.cells (bytesRow t cap) 5 ((bytesRow t cap).size, (bytesRow t cap).size + 1))).drew = X at HP ⊢
  have HX1 : Hid (LtSt R ls 0 cs w w0 X nb b0 F f g N F ∧ BytesAt X W.heap.size 0 t.data.toList ∧ ¬ F W.heap.size) := ⟨⟨HX0.out.rest, HX0.out.st.kept HP.out.1⟩, HP.out.2, fun hf => Nat.lt_irrefl _ (HX0.out.st.nt.lt hf).2⟩
  generalize W.heap.size = q at HX1 ⊢
  clear HX0 HP
  go_loopw [2, 29] (fun s2 s29 wr => ∃ i f : Nat, s29 = .int .i64 (i : Nat) ∧ i ≤ t.size ∧ s2 = .int .i64 (f : Nat) ∧ Hid (∃ N G, LtSt R ls i cs w w0 wr nb b0 F f g N G ∧ BytesAt wr q 0 t.data.toList ∧ ¬ G q)) (fun _ s29 _ => t.size - (intOf s29).toNat)
  case atStart => exact ⟨0, f, rfl, by omega, rfl, N, F, HX1.out⟩
  case round =>
    obtain ⟨i, f2, rfl, hi, rfl, KG⟩ := hrel
    clear HX1
    obtain ⟨N2, G2, hX, hBy, hNq⟩ := KG.out
    have HX := hidd hX
    have HBy := hidd hBy
    have HNq := hidd hNq
    have HSm := hidd (hX.small HS.out)
    clear hX KG
    by_cases hlt : i < t.size
    · have kl : decide ((i : Int) < (t.size : Int)) = true := decide_eq_true (by omega)
      obtain ⟨x, hx⟩ : ∃ x, t.data.toList[i]'hlt = x := ⟨_, rfl⟩
      have hII := HI.out i hlt
      rw [hx] at hII
      have HNx := hidd (HX.out.next hII)
      have HDs := hidd HX.out.st
      have l1 : Hid (N2.one.arrows.length ≤ 100000) := HSm.out.2
      have hq1 : 0 < t.data.toList.length := by show 0 < t.size; omega
      have hqs : Hid (q < wr.heap.size) := hidd (ArrAt.lt hBy hq1)
      have cb := hBy.at0 i hlt
      rw [hx] at cb
      clear HX hBy hNq hII hq1 hx
      go_wp2_with fail
      refine (HDs.out.place HSm.out.1).mono ?_; rintro e w1 ⟨rfl, h1, k1⟩
      have HD1 := hidd h1
      have HBy1 : Hid (BytesAt w1 q 0 t.data.toList ∧ q < w1.heap.size) := ⟨arr_block HBy.out (k1.out q hqs.out HNq.out), Nat.lt_of_lt_of_le hqs.out k1.size⟩
      have hone := (bytes_one w1 x).conv (cap := 1)
      have hg1 : Hid (Grew w1 (w1.alloc (.cells #[.int .u8 (x.toNat : Int)] 5))) := (Grew.refl w1).alloc _
      have hone2 : (convert 109 9 (.slice (some ⟨w1.heap.size, 0, none⟩) 1 1)).run Tryd.prog (w1.alloc (.cells #[.int .u8 (x.toNat : Int)] 5)) = .ok (.string ⟨#[x]⟩) (w1.alloc (.cells #[.int .u8 (x.toNat : Int)] 5)) := hone
      clear h1 HDs HBy hqs k1 cb hone
      go_wp2_with fail
      refine (Some_any ⟨#[x]⟩ true _ (by show 1 ≤ _; unfold maxLen; omega)).mono ?_; rintro e w3 ⟨b, rfl, g3, h1, h2, h3⟩
      rw [if_pos rfl, someB_one] at h3
      have gg := hg1.out.trans g3
      have HB := hidd (HD1.out.made gg (Nat.le_trans hg1.out.size h1) h2 h3)
      have HD3 := hidd (HD1.out.kept gg)
      have HBy3 : Hid (BytesAt w3 q 0 t.data.toList ∧ q < w3.heap.size) := ⟨ArrAt.kept HBy1.out.1 gg, Nat.lt_of_lt_of_le HBy1.out.2 gg.size⟩
      clear HD1 g3 h1 h2 h3 gg hg1 hone2 HBy1
      go_wp2_with fail
      refine (HD3.out.arrow l1.out f2 N2.places _ (some b) HB.out).mono ?_; rintro e w4 ⟨rfl, G4, h4, k4⟩
      have HX4 : Hid (LtSt R ls (i + 1) cs w w0 w4 nb b0 F N2.places g (N2.one.more f2 N2.places (some (one1 x))) G4 ∧ BytesAt w4 q 0 t.data.toList ∧ ¬ G4 q) := ⟨⟨HNx.out, h4⟩, arr_block HBy3.out.1 (k4.out q HBy3.out.2 HNq.out), k4.not HBy3.out.2 HNq.out⟩
      clear h4 HD3 HB k4 HBy3
      go_wp2_with fail
      exact ⟨⟨i + 1, N2.places, by simp, by omega, rfl, _, _, HX4.out⟩, by simp [intOf]; omega⟩
    · have hie : i = t.size := by omega
      have kl : decide ((i : Int) < (t.size : Int)) = false := decide_eq_false (by omega)
      rw [hie, ← HL.out] at HX
      have HNx := hidd HX.out.last
      have HDs := hidd HX.out.st
      clear HX
      go_wp2_with fail
      refine (HDs.out.eps HSm.out.2 f2 g).mono ?_; rintro e w4 ⟨rfl, G4, h4, _⟩
      have HD4 := hidd h4
      clear h4 HDs
      go_wp2_with fail
      go_end0
      rw [← HNx.out]
      exact HD4.out.end_
end Go.Proofs.YtkkdpafkafjfgaaDoor
