/- (*places).build at pieces without kids: some byte, none of some, anything, never; kinds that have no automaton. -/
import Derived.Test.YtkkdpafkafjfgaaDoorWwGlS
import Derived.Test.YtkkdpafkafjfgaaDoorWwScWrong
namespace Go.Proofs.YtkkdpafkafjfgaaDoor
open Go.RowKit RR
set_option linter.unusedVariables false
set_option linter.unusedSimpArgs false
set_option maxRecDepth 100000
structure BuildIn (p : Pat) (b o : Nat) (kv : Value) (w : World) : Prop where
  node : NodeAt w b o p kv
  fit : fitP p
  tab : TabZ32 w
  kids : 0 < p.kids.length → ∃ b' o' c, kv = .slice (some ⟨b', o', none⟩) p.kids.length c ∧ p.kids.length ≤ c ∧ c ≤ maxLen ∧ ∀ i, i < p.kids.length → ∀ w0 ob g F, GlAt w w0 ob g F → Calls Tryd.prog 26 #[.pointer (some ⟨ob, 0, none⟩), .pointer (some ⟨b', o' + i * 5, none⟩)] w0 (BuildTo (buildP (p.kids.getD i Pat.zero) g) w w0 ob F)
structure BuildPre (p : Pat) (b o : Nat) (kv : Value) (w w0 w2 : World) (ob : Nat) (g : Gl) (F : Nat → Prop) (rs : Nat) : Prop where
  node : ∀ x, NodeAt (w2.alloc x) b o p kv
  gl : ∀ x, GlAt w (w2.alloc x) ob g F
  res : ∀ x, (w2.alloc x).heap[rs]? = some (.cells (partC part0) 69 (0, 0))
  to : ∀ x, GlTo w0 (w2.alloc x) F F
  hr : ¬ F rs
  hs : ¬ F w2.heap.size
  lo : w.heap.size ≤ w0.heap.size
  lr : w0.heap.size ≤ rs
  ls : rs < w2.heap.size
theorem build_pre {p : Pat} {b o : Nat} {kv : Value} {w w0 w2 : World} {ob : Nat} {g : Gl} {F : Nat → Prop} (hN : NodeAt w b o p kv) (hG : GlAt w w0 ob g F) (g2 : Grew (w0.alloc (.cells (partC part0) 69)) w2) : BuildPre p b o kv w w0 w2 ob g F w0.heap.size := by
  have ga := (Grew.refl w0).alloc (.cells (partC part0) 69)
  have gx : ∀ x, Grew w0 (w2.alloc x) := fun x => (ga.trans g2).alloc x
  have hsz : w0.heap.size < w2.heap.size := by have := g2.size; rw [World.size_alloc] at this; omega
  exact ⟨fun x => hN.kept (hG.grew.trans (gx x)), fun x => hG.kept (gx x), fun x => heap_kept (g2.alloc x) (heap_alloc_new w0 _), fun x => GlTo.grew (gx x) F, fun hf => by have := hG.lt hf; omega, fun hf => by have := hG.lt hf; omega, hG.grew.size, Nat.le_refl _, hsz⟩
theorem build_end {R : Option Part × Gl} {w w0 w' : World} {ob : Nat} {F F' : Nat → Prop} {rs : Nat} {o : Part} (hR : R.1 = some o) (hG : GlAt w w' ob R.2 F') (hT : GlTo w0 w' F F') (hr : ¬ F' rs) (lo : w.heap.size ≤ w0.heap.size) (lr : w0.heap.size ≤ rs) (c1 c2 : Array Value) :
    BuildTo R w w0 ob F (.returned (.tuple #[partV o, .bool true])) ((w'.setRow rs c1).setRow rs c2) :=
  ⟨o, true, F', rfl, by rw [hR]; rfl, (hG.setRow hr (by omega) c1).setRow hr (by omega) c2, (hT.setRow lr c1).setRow lr c2⟩
theorem build_end1 {R : Option Part × Gl} {w w0 w' : World} {ob : Nat} {F F' : Nat → Prop} {rs : Nat} {o : Part} (hR : R.1 = some o) (hG : GlAt w w' ob R.2 F') (hT : GlTo w0 w' F F') (hr : ¬ F' rs) (lo : w.heap.size ≤ w0.heap.size) (lr : w0.heap.size ≤ rs) (c1 : Array Value) :
    BuildTo R w w0 ob F (.returned (.tuple #[partV o, .bool true])) (w'.setRow rs c1) :=
  ⟨o, true, F', rfl, by rw [hR]; rfl, hG.setRow hr (by omega) c1, hT.setRow lr c1⟩
theorem build_no {R : Option Part × Gl} {w w0 w' : World} {ob : Nat} {F F' : Nat → Prop} {rs : Nat} (o : Part) (hR : R.1 = none) (hG : GlAt w w' ob R.2 F') (hT : GlTo w0 w' F F') (hr : ¬ F' rs) (lo : w.heap.size ≤ w0.heap.size) (lr : w0.heap.size ≤ rs) (c1 : Array Value) :
    BuildTo R w w0 ob F (.returned (.tuple #[partV o, .bool false])) (w'.setRow rs c1) :=
  ⟨o, false, F', rfl, by rw [hR]; rfl, hG.setRow hr (by omega) c1, hT.setRow lr c1⟩
theorem build_k15 (t : ByteArray) (n : Int) (m : ByteArray) (l : List Pat) (b o : Nat) (kv : Value) (w : World) (h : BuildIn (.mk 15 t n m l) b o kv w) (w0 : World) (ob : Nat) (g : Gl) (F : Nat → Prop) (hG : GlAt w w0 ob g F) :
    Calls Tryd.prog 26 #[.pointer (some ⟨ob, 0, none⟩), .pointer (some ⟨b, o, none⟩)] w0 (BuildTo (buildP (.mk 15 t n m l) g) w w0 ob F) := by
  have hz := zero_part
  have hz2 := zero_set
  have HR : Hid (buildP (.mk 15 t n m l) g = (some part0, g)) := by unfold Hid; rw [buildP_eq]; rfl
  have HP : Hid (∀ w2, Grew (w0.alloc (.cells (partC part0) 69)) w2 → _) := fun w2 g2 => build_pre h.node hG g2
  have HN := hidd (Not_none (w0.alloc (.cells (partC part0) 69)))
  obtain ⟨rs, hrs⟩ : ∃ rs, w0.heap.size = rs := ⟨_, rfl⟩
  rw [hrs] at HP
  clear h hG
  go_enter Tryd.func26, Tryd.ntmps26
  go_wp2_with fail
  refine HN.out.mono ?_; rintro e w2 ⟨rfl, g2⟩
  have hp := HP.out w2 g2
  have HPx := hidd hp
  have c0 : ∀ x, (w2.alloc x).cell? ⟨b, o, none⟩ = some (.int .i64 15) := fun x => (hp.node x).c0
  clear hp HP HN g2 hrs
  unfold setV
  go_wp2_with (first | (refine wpList_load_part (b := rs) rfl rfl rfl (HPx.out.res _) rfl ?_) | (refine wpList_store_part (b := rs) rfl rfl rfl rfl (HPx.out.res _) rfl rfl (part_one _) ?_))
  refine bodyPost_ret (results_part2 (p := 4) (q := 5) (rb := rs) (av := partC part0) rfl rfl rfl (setRow_heap _ _ _ _ _ _ (HPx.out.res _)) rfl) rfl ?_
  rw [HR.out]
  exact build_end1 (o := part0) rfl (HPx.out.gl _) (HPx.out.to _) HPx.out.hr HPx.out.lo HPx.out.lr _
theorem build_other (k : Int) (t : ByteArray) (n : Int) (m : ByteArray) (l : List Pat) (hk : k ≠ 1 ∧ k ≠ 2 ∧ k ≠ 3 ∧ k ≠ 4 ∧ k ≠ 13 ∧ k ≠ 15 ∧ k ≠ 18 ∧ k ≠ 19 ∧ k ≠ 20) (b o : Nat) (kv : Value) (w : World) (h : BuildIn (.mk k t n m l) b o kv w) (w0 : World) (ob : Nat) (g : Gl) (F : Nat → Prop) (hG : GlAt w w0 ob g F) :
    Calls Tryd.prog 26 #[.pointer (some ⟨ob, 0, none⟩), .pointer (some ⟨b, o, none⟩)] w0 (BuildTo (buildP (.mk k t n m l) g) w w0 ob F) := by
  have hz := zero_part
  have hz2 := zero_set
  obtain ⟨k1, k2, k3, k4, k13, k15, k18, k19, k20⟩ := hk
  have HR : Hid (buildP (.mk k t n m l) g = (none, g)) := by
    unfold Hid; rw [buildP_eq]; show buildK k t n _ g = _
    unfold buildK
    rw [if_neg (by omega), if_neg k3, if_neg k4, if_neg k13, if_neg k15, if_neg k18, if_neg k19, if_neg k20]
  have q1 : (k == 1) = false := by simpa using k1
  have q2 : (k == 2) = false := by simpa using k2
  have q3 : (k == 3) = false := by simpa using k3
  have q4 : (k == 4) = false := by simpa using k4
  have q13 : (k == 13) = false := by simpa using k13
  have q15 : (k == 15) = false := by simpa using k15
  have q18 : (k == 18) = false := by simpa using k18
  have q19 : (k == 19) = false := by simpa using k19
  have q20 : (k == 20) = false := by simpa using k20
  clear k1 k2 k3 k4 k13 k15 k18 k19 k20
  have HP : Hid (∀ w2, Grew (w0.alloc (.cells (partC part0) 69)) w2 → _) := fun w2 g2 => build_pre h.node hG g2
  have HN := hidd (Not_none (w0.alloc (.cells (partC part0) 69)))
  obtain ⟨rs, hrs⟩ : ∃ rs, w0.heap.size = rs := ⟨_, rfl⟩
  rw [hrs] at HP
  clear h hG
  go_enter Tryd.func26, Tryd.ntmps26
  go_wp2_with fail
  refine HN.out.mono ?_; rintro e w2 ⟨rfl, g2⟩
  have hp := HP.out w2 g2
  have HPx := hidd hp
  have c0 : ∀ x, (w2.alloc x).cell? ⟨b, o, none⟩ = some (.int .i64 k) := fun x => (hp.node x).c0
  clear hp HP HN g2 hrs
  unfold setV
  go_wp2_with (first | (refine wpList_load_part (b := rs) rfl rfl rfl (HPx.out.res _) rfl ?_) | (refine wpList_store_part (b := rs) rfl rfl rfl rfl (HPx.out.res _) rfl rfl (part_one _) ?_))
  refine bodyPost_ret (results_part2 (p := 4) (q := 5) (rb := rs) (av := partC part0) rfl rfl rfl (setRow_heap _ _ _ _ _ _ (HPx.out.res _)) rfl) rfl ?_
  rw [HR.out]
  exact build_no part0 rfl (HPx.out.gl _) (HPx.out.to _) HPx.out.hr HPx.out.lo HPx.out.lr _
theorem someB_set (t : ByteArray) : setV (setOf t.data.toList) = setV (someB t) := setV_congr fun b _ => setOf_mem _ _
theorem build_k3 (t : ByteArray) (n : Int) (m : ByteArray) (l : List Pat) (b o : Nat) (kv : Value) (w : World) (h : BuildIn (.mk 3 t n m l) b o kv w) (w0 : World) (ob : Nat) (g : Gl) (F : Nat → Prop) (hG : GlAt w w0 ob g F) :
    Calls Tryd.prog 26 #[.pointer (some ⟨ob, 0, none⟩), .pointer (some ⟨b, o, none⟩)] w0 (BuildTo (buildP (.mk 3 t n m l) g) w w0 ob F) := by
  have hz := zero_part
  have hz2 := zero_set
  have HR : Hid (buildP (.mk 3 t n m l) g = someG (g.one (someB t))) := by unfold Hid; rw [buildP_eq]; rfl
  have HP : Hid (∀ w2, Grew (w0.alloc (.cells (partC part0) 69)) w2 → _) := fun w2 g2 => build_pre h.node hG g2
  have HN := hidd (Not_none (w0.alloc (.cells (partC part0) 69)))
  have HOf : Hid (∀ w1, Calls Tryd.prog 58 #[.string t] w1 fun e w' => e = .returned (setV (someB t)) ∧ Grew w1 w') := fun w1 => by
    have := Of_any t w1 h.node.ht
    rw [someB_set] at this; exact this
  obtain ⟨rs, hrs⟩ : ∃ rs, w0.heap.size = rs := ⟨_, rfl⟩
  rw [hrs] at HP
  clear h hG
  go_enter Tryd.func26, Tryd.ntmps26
  go_wp2_with fail
  refine HN.out.mono ?_; rintro e w2 ⟨rfl, g2⟩
  have hp := HP.out w2 g2
  have HPx := hidd hp
  have c0 : ∀ x, (w2.alloc x).cell? ⟨b, o, none⟩ = some (.int .i64 3) := fun x => (hp.node x).c0
  have c1 : ∀ x, (w2.alloc x).cell? ⟨b, o + 1, none⟩ = some (.string t) := fun x => (hp.node x).c1
  clear hp HP HN g2 hrs
  unfold setV
  go_wp2_with fail
  refine (HOf.out _).mono ?_; rintro e w3 ⟨rfl, g3⟩
  have HO := hidd (One_any ((HPx.out.gl (.cells (setC allB).toArray 77)).kept g3) (someB t))
  have HG3 := hidd g3
  clear g3
  obtain ⟨sv, hsv⟩ : ∃ sv, setV (someB t) = sv := ⟨_, rfl⟩
  rw [hsv] at HO ⊢
  go_wp2_with fail
  refine HO.out.mono ?_; rintro e w4 ⟨rfl, F4, hG4, hT4⟩
  have ht := (GlTo.grew HG3.out F).trans hT4
  have hlr : rs < (w2.alloc (.cells (setC allB).toArray 77)).heap.size := by rw [World.size_alloc]; have := HPx.out.ls; omega
  have H4 := hidd (And.intro ((ht.out rs hlr HPx.out.hr).trans (HPx.out.res _)) (And.intro (ht.not hlr HPx.out.hr) (And.intro hG4 ((HPx.out.to _).trans ht))))
  clear hG4 hT4 ht hlr hsv
  go_wp2_with (first | (refine wpList_load_part (b := rs) rfl rfl rfl (setRow_heap _ _ _ _ _ _ H4.out.1) rfl ?_) | (refine wpList_store_part (b := rs) rfl rfl rfl rfl H4.out.1 rfl rfl (part_one _) ?_) | (refine wpList_store_part (b := rs) rfl rfl rfl rfl (setRow_heap _ _ _ _ _ _ H4.out.1) rfl rfl (part_one _) ?_))
  refine bodyPost_ret (results_part2 (p := 4) (q := 5) (rb := rs) rfl rfl rfl (setRow_heap _ _ _ _ _ _ (setRow_heap _ _ _ _ _ _ H4.out.1)) rfl) rfl ?_
  rw [HR.out]
  exact build_end (o := (g.one (someB t)).1) rfl H4.out.2.2.1 H4.out.2.2.2 H4.out.2.1 HPx.out.lo HPx.out.lr _ _
theorem build_k4 (t : ByteArray) (n : Int) (m : ByteArray) (l : List Pat) (b o : Nat) (kv : Value) (w : World) (h : BuildIn (.mk 4 t n m l) b o kv w) (w0 : World) (ob : Nat) (g : Gl) (F : Nat → Prop) (hG : GlAt w w0 ob g F) :
    Calls Tryd.prog 26 #[.pointer (some ⟨ob, 0, none⟩), .pointer (some ⟨b, o, none⟩)] w0 (BuildTo (buildP (.mk 4 t n m l) g) w w0 ob F) := by
  have hz := zero_part
  have hz2 := zero_set
  have HR : Hid (buildP (.mk 4 t n m l) g = someG (g.one (notB (someB t)))) := by unfold Hid; rw [buildP_eq]; rfl
  have HP : Hid (∀ w2, Grew (w0.alloc (.cells (partC part0) 69)) w2 → _) := fun w2 g2 => build_pre h.node hG g2
  have HN := hidd (Not_none (w0.alloc (.cells (partC part0) 69)))
  have HOf : Hid (∀ w1, Calls Tryd.prog 58 #[.string t] w1 fun e w' => e = .returned (setV (someB t)) ∧ Grew w1 w') := fun w1 => by
    have := Of_any t w1 h.node.ht
    rw [someB_set] at this; exact this
  obtain ⟨rs, hrs⟩ : ∃ rs, w0.heap.size = rs := ⟨_, rfl⟩
  rw [hrs] at HP
  clear h hG
  go_enter Tryd.func26, Tryd.ntmps26
  go_wp2_with fail
  refine HN.out.mono ?_; rintro e w2 ⟨rfl, g2⟩
  have hp := HP.out w2 g2
  have HPx := hidd hp
  have c0 : ∀ x, (w2.alloc x).cell? ⟨b, o, none⟩ = some (.int .i64 4) := fun x => (hp.node x).c0
  have c1 : ∀ x, (w2.alloc x).cell? ⟨b, o + 1, none⟩ = some (.string t) := fun x => (hp.node x).c1
  clear hp HP HN g2 hrs
  unfold setV
  go_wp2_with fail
  refine (HOf.out _).mono ?_; rintro e w3 ⟨rfl, g3⟩
  have HG2 := hidd g3
  have HNn : Hid (∀ w1, Calls Tryd.prog 57 #[setV (someB t)] w1 fun e w' => e = .returned (setV (notB (someB t))) ∧ Grew w1 w') := fun w1 => Not_any (someB t) w1
  clear g3
  obtain ⟨su, hsu⟩ : ∃ su, setV (someB t) = su := ⟨_, rfl⟩
  rw [hsu] at HNn ⊢
  go_wp2_with fail
  refine (HNn.out _).mono ?_; rintro e w3' ⟨rfl, g3⟩
  have HO := hidd (One_any ((HPx.out.gl (.cells (setC allB).toArray 77)).kept (HG2.out.trans g3)) (notB (someB t)))
  have HG3 := hidd (HG2.out.trans g3)
  clear g3 hsu
  obtain ⟨sv, hsv⟩ : ∃ sv, setV (notB (someB t)) = sv := ⟨_, rfl⟩
  rw [hsv] at HO ⊢
  go_wp2_with fail
  refine HO.out.mono ?_; rintro e w4 ⟨rfl, F4, hG4, hT4⟩
  have ht := (GlTo.grew HG3.out F).trans hT4
  have hlr : rs < (w2.alloc (.cells (setC allB).toArray 77)).heap.size := by rw [World.size_alloc]; have := HPx.out.ls; omega
  have H4 := hidd (And.intro ((ht.out rs hlr HPx.out.hr).trans (HPx.out.res _)) (And.intro (ht.not hlr HPx.out.hr) (And.intro hG4 ((HPx.out.to _).trans ht))))
  clear hG4 hT4 ht hlr hsv
  go_wp2_with (first | (refine wpList_load_part (b := rs) rfl rfl rfl (setRow_heap _ _ _ _ _ _ H4.out.1) rfl ?_) | (refine wpList_store_part (b := rs) rfl rfl rfl rfl H4.out.1 rfl rfl (part_one _) ?_) | (refine wpList_store_part (b := rs) rfl rfl rfl rfl (setRow_heap _ _ _ _ _ _ H4.out.1) rfl rfl (part_one _) ?_))
  refine bodyPost_ret (results_part2 (p := 4) (q := 5) (rb := rs) rfl rfl rfl (setRow_heap _ _ _ _ _ _ (setRow_heap _ _ _ _ _ _ H4.out.1)) rfl) rfl ?_
  rw [HR.out]
  exact build_end (o := (g.one (notB (someB t))).1) rfl H4.out.2.2.1 H4.out.2.2.2 H4.out.2.1 HPx.out.lo HPx.out.lr _ _
theorem build_k13 (t : ByteArray) (n : Int) (m : ByteArray) (l : List Pat) (b o : Nat) (kv : Value) (w : World) (h : BuildIn (.mk 13 t n m l) b o kv w) (w0 : World) (ob : Nat) (g : Gl) (F : Nat → Prop) (hG : GlAt w w0 ob g F) :
    Calls Tryd.prog 26 #[.pointer (some ⟨ob, 0, none⟩), .pointer (some ⟨b, o, none⟩)] w0 (BuildTo (buildP (.mk 13 t n m l) g) w w0 ob F) := by
  have hz := zero_part
  have hz2 := zero_set
  have HR : Hid (buildP (.mk 13 t n m l) g = starG (someG (g.one allB))) := by unfold Hid; rw [buildP_eq]; rfl
  have HP : Hid (∀ w2, Grew (w0.alloc (.cells (partC part0) 69)) w2 → _) := fun w2 g2 => build_pre h.node hG g2
  have HN := hidd (Not_none (w0.alloc (.cells (partC part0) 69)))
  have HT := hidd h.tab
  obtain ⟨rs, hrs⟩ : ∃ rs, w0.heap.size = rs := ⟨_, rfl⟩
  rw [hrs] at HP
  clear h hG
  go_enter Tryd.func26, Tryd.ntmps26
  go_wp2_with fail
  refine HN.out.mono ?_; rintro e w2 ⟨rfl, g2⟩
  have hp := HP.out w2 g2
  have HPx := hidd hp
  have c0 : ∀ x, (w2.alloc x).cell? ⟨b, o, none⟩ = some (.int .i64 13) := fun x => (hp.node x).c0
  have c1 : ∀ x, (w2.alloc x).cell? ⟨b, o + 1, none⟩ = some (.string t) := fun x => (hp.node x).c1
  clear hp HP HN g2 hrs
  have HO := hidd (One_any (HPx.out.gl (.cells (setC allB).toArray 77)) allB)
  have HF4 := hidd (HPx.out.gl (.cells (setC allB).toArray 77)).fits
  unfold setV at HO ⊢
  go_wp2_with fail
  refine HO.out.mono ?_; rintro e w4 ⟨rfl, F4, hG4, hT4⟩
  have hlr : rs < (w2.alloc (.cells (setC allB).toArray 77)).heap.size := by rw [World.size_alloc]; have := HPx.out.ls; omega
  have H4 := hidd (And.intro ((hT4.out rs hlr HPx.out.hr).trans (HPx.out.res _)) (And.intro (hT4.not hlr HPx.out.hr) (And.intro hG4 ((HPx.out.to _).trans hT4))))
  have hlr4 := Nat.lt_of_lt_of_le hlr hT4.size
  have HA := hidd (Again_any hG4 (g.one allB).1 (one_in g allB).2.last (one_fits HF4.out allB).2 HT.out)
  have HL4 := hidd hlr4
  clear hG4 hT4 hlr hlr4
  obtain ⟨pv, hpv⟩ : ∃ pv, partV (g.one allB).1 = pv := ⟨_, rfl⟩
  rw [hpv] at HA ⊢
  go_wp2_with fail
  refine HA.out.mono ?_; rintro e w5 ⟨rfl, hG5, hT5⟩
  have H5 := hidd (And.intro ((hT5.out rs HL4.out H4.out.2.1).trans H4.out.1) (And.intro hG5 (H4.out.2.2.2.trans hT5)))
  clear hG5 hT5 HA hpv
  go_wp2_with (first | (refine wpList_load_part (b := rs) rfl rfl rfl (setRow_heap _ _ _ _ _ _ H5.out.1) rfl ?_) | (refine wpList_store_part (b := rs) rfl rfl rfl rfl H5.out.1 rfl rfl (part_one _) ?_) | (refine wpList_store_part (b := rs) rfl rfl rfl rfl (setRow_heap _ _ _ _ _ _ H5.out.1) rfl rfl (part_one _) ?_))
  refine bodyPost_ret (results_part2 (p := 4) (q := 5) (rb := rs) rfl rfl rfl (setRow_heap _ _ _ _ _ _ (setRow_heap _ _ _ _ _ _ H5.out.1)) rfl) rfl ?_
  rw [HR.out]
  exact build_end (o := againP (g.one allB).1) rfl H5.out.2.1 H5.out.2.2 H4.out.2.1 HPx.out.lo HPx.out.lr _ _
end Go.Proofs.YtkkdpafkafjfgaaDoor
