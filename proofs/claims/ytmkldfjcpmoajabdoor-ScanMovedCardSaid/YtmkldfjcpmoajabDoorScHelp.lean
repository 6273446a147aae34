/- The laws' own helpers: all ways, alike; patterns made. -/
import Derived.Test.YtmkldfjcpmoajabDoorScSame
import Derived.Test.YtmkldfjcpmoajabDoorScAlike
import Derived.Test.YtmkldfjcpmoajabDoorScOpen
import Derived.Test.YtmkldfjcpmoajabDoorScMatchW
/-! The laws' own helpers: all ways, alike; patterns made. -/
namespace Go.Proofs.YtmkldfjcpmoajabDoor
open Go.RowKit
set_option linter.unusedVariables false
section
variable {R : List Rule} {w : World} {v kv kv' : Value} {p q : Pat} {s : ByteArray}
/-- What comes of 'all'. -/
def AllEnd (w : World) (r : List Way × Bool × Int) (e : Ending) (w' : World) : Prop := Grew w w' ∧ ∃ a c, e = .returned (.tuple #[.slice a r.1.length c, .bool r.2.1, .bool (allOk r)]) ∧ WaysV w' (.slice a r.1.length c) r.1
set_option maxRecDepth 100000 in
set_option maxHeartbeats 1000000 in
theorem all_any (a : Int) (hR : RulesAt w v R) (hp : PatV w kv p) (hs : s.size ≤ maxLen) (hT : TabP w) :
    Calls Tryd.prog 10 #[v, .agg (p.cells kv), .string s, .int .i64 a] w fun e w' => AllEnd w (allT R s p a) e w' := by
  obtain ⟨ra, rc, rfl, _⟩ := hR.len
  have HW : Hid (∀ w1, Grew w w1 → Calls Tryd.prog 20 #[.slice ra R.length rc, .agg (p.cells kv), .string s, .int .i64 a, .int .i64 4096, .int .i64 20000] w1 fun e w' => WaysEnd w1 (allT R s p a) e w') :=
    fun w1 g => Ways_any a 4096 20000 (hR.kept g) (hp.kept g) hs (by omega) (hT.kept g)
  clear hR hp hT hs
  unfold Pat.cells at HW ⊢
  obtain ⟨⟨l, c, er⟩, hr⟩ : ∃ r, allT R s p a = r := ⟨_, rfl⟩
  rw [hr] at HW ⊢
  clear hr
  have HW2 : Hid (∀ w1, Grew w w1 → Calls Tryd.prog 20 #[.slice ra R.length rc, .agg #[.int .i64 p.kind, .string p.text, .int .i64 p.n, .string p.name, kv], .string s, .int .i64 a, .int .i64 4096, .int .i64 20000] w1 fun e w' => Grew w1 w' ∧ ∃ b c', e = .returned (.tuple #[.slice b l.length c', .bool c, .int .i64 er]) ∧ WaysV w' (.slice b l.length c') l) :=
    fun w1 g => (HW.out w1 g).mono fun e w' ⟨h1, vv, h2, h3⟩ => by
      obtain ⟨gs, k1, k2, k3⟩ := h3
      obtain ⟨b, c', rfl⟩ := ownsRow_form0 k2
      exact ⟨h1, b, c', h2, .of_at ⟨gs, k1, k2, k3⟩⟩
  clear HW
  by_cases he : er = 0
  · subst he
    have HK : Hid (allOk (l, c, 0) = decide ((l.length : Int) < 4096)) := by
      unfold Hid allOk
      simp
      omega
    go_enter Tryd.func10, Tryd.ntmps10
    go_wp2_with fail
    refine (HW2.out _ ((Grew.refl w).alloc _)).mono ?_; rintro e w2 ⟨g2, b, c', rfl, hv⟩
    have HG := hidd (And.intro (((Grew.refl w).alloc _).trans g2) hv)
    clear g2 hv HW2
    by_cases hl : (l.length : Int) < 4096
    · go_wp2_with fail
      go_ret3
      exact ⟨HG.out.1, b, c', by rw [HK.out, decide_eq_true hl]; rfl, HG.out.2⟩
    · have hl' : decide ((l.length : Int) < 4096) = false := decide_eq_false hl
      go_wp2_with fail
      go_ret3
      exact ⟨HG.out.1, b, c', by rw [HK.out, hl']; rfl, HG.out.2⟩
  · have HK : Hid (allOk (l, c, er) = false) := by
      unfold Hid allOk
      simp [he]
    have he' : (er == 0) = false := by simp [he]
    clear he
    go_enter Tryd.func10, Tryd.ntmps10
    go_wp2_with fail
    refine (HW2.out _ ((Grew.refl w).alloc _)).mono ?_; rintro e w2 ⟨g2, b, c', rfl, hv⟩
    have HG := hidd (And.intro (((Grew.refl w).alloc _).trans g2) hv)
    clear g2 hv HW2
    go_wp2_with fail
    go_ret3
    exact ⟨HG.out.1, b, c', by rw [HK.out]; rfl, HG.out.2⟩

theorem box_five {w : World} {b : Nat} {v0 v1 v2 v3 v4 : Value} {t : TypeId} (h : w.heap[b]? = some (.cells #[v0, v1, v2, v3, v4] t (0, 0))) :
    w.cell? ⟨b, 0, none⟩ = some v0 ∧ w.cell? ⟨b, 1, none⟩ = some v1 ∧ w.cell? ⟨b, 2, none⟩ = some v2 ∧ w.cell? ⟨b, 3, none⟩ = some v3 ∧ w.cell? ⟨b, 4, none⟩ = some v4 := by
  simp [World.cell?, h]

set_option maxRecDepth 100000 in
set_option maxHeartbeats 2000000 in
theorem alike_any (a : Int) (hR : RulesAt w v R) (hp : PatV w kv p) (hq : PatV w kv' q) (hs : s.size ≤ maxLen) (hT : TabP w) :
    Calls Tryd.prog 17 #[v, .agg (p.cells kv), .agg (q.cells kv'), .string s, .int .i64 a] w fun e w' => e = .returned (.bool (alikeB R s p q a)) ∧ Grew w w' := by
  have HP : Hid (∀ w1, Grew w w1 → Calls Tryd.prog 10 #[v, .agg (p.cells kv), .string s, .int .i64 a] w1 fun e w' => AllEnd w1 (allT R s p a) e w') := fun w1 g => all_any a (hR.kept g) (hp.kept g) hs (hT.kept g)
  have HQ : Hid (∀ w1, Grew w w1 → Calls Tryd.prog 10 #[v, .agg (q.cells kv'), .string s, .int .i64 a] w1 fun e w' => AllEnd w1 (allT R s q a) e w') := fun w1 g => all_any a (hR.kept g) (hq.kept g) hs (hT.kept g)
  clear hR hp hq hT hs
  unfold Pat.cells at HP HQ ⊢
  have HB : Hid (alikeB R s p q a = (!allOk (allT R s p a) || (!allOk (allT R s q a) || ((allT R s p a).2.1 == (allT R s q a).2.1 && decide ((allT R s p a).1 = (allT R s q a).1))))) := rfl
  obtain ⟨x, hx⟩ : ∃ r, allT R s p a = r := ⟨_, rfl⟩
  obtain ⟨y, hy⟩ : ∃ r, allT R s q a = r := ⟨_, rfl⟩
  rw [hx, hy] at HB
  rw [hx] at HP
  rw [hy] at HQ
  clear hx hy
  obtain ⟨l, c, er⟩ := x
  obtain ⟨m, d, ef⟩ := y
  dsimp only at HB
  generalize alikeB R s p q a = res at HB ⊢
  unfold AllEnd at HP HQ
  dsimp only at HP HQ
  generalize allOk (l, c, er) = oa at HP HB
  generalize allOk (m, d, ef) = ob at HQ HB
  go_enter Tryd.func17, Tryd.ntmps17
  go_wp2_with fail
  refine (HP.out _ (((Grew.refl w).alloc _).alloc _)).mono ?_; rintro e w2 ⟨g2, b, c', rfl, hv⟩
  have HG := hidd ((((Grew.refl w).alloc _).alloc _).trans g2)
  have HV := hidd hv
  obtain ⟨k0, k1, k2, k3, k4⟩ := box_five (w := w2) (b := w.heap.size + 1) (by rw [g2.block _ (by simp)]; exact (heap_two w _ _).2)
  clear g2 hv HP
  go_wp2_with fail
  refine (HQ.out _ HG.out).mono ?_; rintro e w3 ⟨g3, b', c2, rfl, hv⟩
  have HG3 := hidd (HG.out.trans g3)
  have HC : Hid (Calls Tryd.prog 16 #[.slice b l.length c', .slice b' m.length c2] w3 fun e w' => e = .returned (.bool (decide (l = m))) ∧ ∃ n, w' = w3.drewN n) := SameWays_any (HV.out.kept g3) hv
  clear g3 hv HQ HV k0 k1 k2 k3 k4
  cases oa with
  | false =>
    go_wp2_with fail
    go_ret
    exact ⟨by rw [HB.out]; rfl, HG3.out⟩
  | true =>
    cases ob with
    | false =>
      go_wp2_with fail
      go_ret
      exact ⟨by rw [HB.out]; rfl, HG3.out⟩
    | true =>
      cases hcd : c == d with
      | false =>
        go_wp2_with fail
        go_ret
        exact ⟨by rw [HB.out, hcd]; rfl, HG3.out⟩
      | true =>
        have HCD := hidd hcd
        generalize decide (l = m) = ss at HC HB
        go_wp2_with fail
        refine HC.out.mono ?_; rintro e w4 ⟨rfl, n, rfl⟩
        go_wp2_with fail
        go_ret
        exact ⟨by rw [HB.out, HCD.out]; rfl, HG3.out.drewN n⟩
end
end Go.Proofs.YtmkldfjcpmoajabDoor
/-! Patterns that the laws make: cat, alt, some, lit; alive. -/
namespace Go.Proofs.YtmkldfjcpmoajabDoor
open Go.RowKit
set_option linter.unusedVariables false
theorem results_cell {fn : Func} {p : Tmp} {ty : TypeId} (h : fn.results = #[.cell p ty]) (tmps : Array Value) (P : Program) (w : World) :
    (results fn tmps).run P w = ((asAddr (tmps.getD p undef)).run P w).andThen fun a w₁ => (loadVar ty a).run P w₁ := by
  simp only [results, h]
  simp [Sem.run_bind, Result.andThen]
theorem info_pat : (Tryd.prog.info? 28).map (·.size) = some 5 := by kernel_rfl
theorem results_pat {fn : Func} {p : Tmp} (h : fn.results = #[.cell p 28]) {w : World} {tmps : Array Value} {rb : Nat} {cs : Array Value} (hp : tmps.getD p undef = .pointer (some ⟨rb, 0, none⟩)) (hg : w.heap[rb]? = some (.cells cs 28 (0, 0))) (hc : cs.size = 5) :
    (results fn tmps).run Tryd.prog w = .ok (.agg cs) w := by
  rw [results_cell h, hp]
  have h := run_loadVar_row (P := Tryd.prog) w rb 28 28 cs (0, 0) _ hg Tryd.underlying28 rfl (by rw [hc]; exact info_pat)
  simp [asAddr, h]
theorem kids_form {w : World} {v : Value} {l : List Pat} (h : KidsAt w v l) : ∃ b n c, v = .slice b n c := by
  rcases h with ⟨a, c, rfl, _⟩ | ⟨b, o, c, rfl, _⟩ <;> exact ⟨_, _, _, rfl⟩
section
set_option maxRecDepth 100000 in
theorem cat_any (v : Value) (l : List Pat) (w : World) (h : KidsAt w v l) :
    Calls Tryd.prog 13 #[v] w fun e w' => e = .returned (.agg ((catP l).cells v)) ∧ Grew w w' ∧ PatV w' v (catP l) := by
  obtain ⟨b, n, c, rfl⟩ := kids_form h
  have H := hidd h
  clear h
  go_enter Tryd.func13, Tryd.ntmps13
  go_wp2_with fail
  refine bodyPost_ret (results_pat (rb := w.heap.size) (cs := #[.int .i64 18, .string ByteArray.empty, .int .i64 0, .string ByteArray.empty, .slice b n c]) rfl rfl (heap_alloc_new w _) rfl) rfl ⟨rfl, (Grew.refl w).alloc _, H.out.kept ((Grew.refl w).alloc _), ?_, ?_, ?_, ?_⟩
  · exact ⟨by show (-9223372036854775808 : Int) ≤ 18; omega, by show (18 : Int) ≤ 9223372036854775807; omega⟩
  · exact ⟨by show (-9223372036854775808 : Int) ≤ 0; omega, by show (0 : Int) ≤ 9223372036854775807; omega⟩
  · exact Nat.zero_le _
  · exact Nat.zero_le _
set_option maxRecDepth 100000 in
theorem alt_any (v : Value) (l : List Pat) (w : World) (h : KidsAt w v l) :
    Calls Tryd.prog 15 #[v] w fun e w' => e = .returned (.agg ((altP l).cells v)) ∧ Grew w w' ∧ PatV w' v (altP l) := by
  obtain ⟨b, n, c, rfl⟩ := kids_form h
  have H := hidd h
  clear h
  go_enter Tryd.func15, Tryd.ntmps15
  go_wp2_with fail
  refine bodyPost_ret (results_pat (rb := w.heap.size) (cs := #[.int .i64 19, .string ByteArray.empty, .int .i64 0, .string ByteArray.empty, .slice b n c]) rfl rfl (heap_alloc_new w _) rfl) rfl ⟨rfl, (Grew.refl w).alloc _, H.out.kept ((Grew.refl w).alloc _), ?_, ?_, ?_, ?_⟩
  · exact ⟨by show (-9223372036854775808 : Int) ≤ 19; omega, by show (19 : Int) ≤ 9223372036854775807; omega⟩
  · exact ⟨by show (-9223372036854775808 : Int) ≤ 0; omega, by show (0 : Int) ≤ 9223372036854775807; omega⟩
  · exact Nat.zero_le _
  · exact Nat.zero_le _
theorem kids_none (w : World) : KidsAt w (.slice none 0 0) [] := Or.inl ⟨none, 0, rfl, rfl⟩
set_option maxRecDepth 100000 in
theorem some_any (k n : Int) (t : ByteArray) (w : World) (hk : -9223372036854775808 ≤ k ∧ k ≤ 9223372036854775807) (hn : -9223372036854775808 ≤ n ∧ n ≤ 9223372036854775807) (h : t.size ≤ maxLen) :
    Calls Tryd.prog 11 #[.int .i64 k, .int .i64 n, .string t] w fun e w' => e = .returned (.agg ((someP k n t).cells (.slice none 0 0))) ∧ Grew w w' ∧ PatV w' (.slice none 0 0) (someP k n t) := by
  have H := hidd (And.intro hk (And.intro hn h))
  clear h hk hn
  go_enter Tryd.func11, Tryd.ntmps11
  go_wp2_with fail
  refine bodyPost_ret (results_pat (rb := w.heap.size) (cs := #[.int .i64 k, .string t, .int .i64 n, .string ByteArray.empty, .slice none 0 0]) rfl rfl (heap_alloc_new w _) rfl) rfl ⟨rfl, (Grew.refl w).alloc _, kids_none _, ?_, ?_, ?_, ?_⟩
  · exact H.out.1
  · exact H.out.2.1
  · exact H.out.2.2
  · exact Nat.zero_le _
end
/-! The closed fact. -/
def litB : Pat := someP 1 0 ⟨#[98]⟩
def arbW : Pat := someP 13 0 ByteArray.empty
theorem alive_match : matchOf [] litB ⟨#[97, 98, 99]⟩ false 10 = (some (1, 2, []), [], 2, 0) := by kernel_rfl
theorem alive_ways : waysOf [] arbW ⟨#[97, 98]⟩ 0 5 10 = ([(0, []), (1, []), (2, [])], false, 0) := by kernel_rfl
theorem litB_at (w : World) : PatV w (.slice none 0 0) litB := ⟨kids_none w, ⟨by show (-9223372036854775808 : Int) ≤ 1; omega, by show (1 : Int) ≤ 9223372036854775807; omega⟩, ⟨by show (-9223372036854775808 : Int) ≤ 0; omega, by show (0 : Int) ≤ 9223372036854775807; omega⟩, by show (1 : Nat) ≤ maxLen; unfold maxLen; omega, Nat.zero_le _⟩
theorem arbW_at (w : World) : PatV w (.slice none 0 0) arbW := ⟨kids_none w, ⟨by show (-9223372036854775808 : Int) ≤ 13; omega, by show (13 : Int) ≤ 9223372036854775807; omega⟩, ⟨by show (-9223372036854775808 : Int) ≤ 0; omega, by show (0 : Int) ≤ 9223372036854775807; omega⟩, Nat.zero_le _, Nat.zero_le _⟩
theorem rules_none (w : World) : RulesAt w (.slice none 0 0) [] := Or.inl ⟨none, 0, rfl, rfl⟩
set_option maxRecDepth 100000 in
set_option maxHeartbeats 1000000 in
theorem alive_any (w : World) (hT : TabP w) : Calls Tryd.prog 9 #[] w fun e w' => e = .returned (.bool true) ∧ Grew w w' := by
  have HM : Hid (∀ w1, Grew w w1 → Calls Tryd.prog 19 #[.slice none 0 0, .agg #[.int .i64 1, .string ⟨#[98]⟩, .int .i64 0, .string ⟨#[]⟩, .slice none 0 0], .string ⟨#[97, 98, 99]⟩, .bool false, .int .i64 10] w1 fun e w' => ∃ ga gc sa sc, e = .returned (.tuple #[.agg #[.bool true, .int .i64 1, .int .i64 2, .slice ga 0 gc, .slice sa 0 sc, .int .i64 2], .int .i64 0]) ∧ Grew w1 w') :=
    fun w1 g => (Match_any (p := litB) (kv := .slice none 0 0) (s := ⟨#[97, 98, 99]⟩) false 10 (rules_none w1) (litB_at w1) (by show 3 ≤ maxLen; unfold maxLen; omega) (by omega) (hT.kept g)).mono fun e w' ⟨hg, gv, sv, he, h1, h2⟩ => by
      rw [alive_match] at he h1 h2
      obtain ⟨ga, gc, rfl⟩ := ownsRow_form0 h1
      obtain ⟨sa, sc, rfl⟩ := ownsRow_form0 h2
      exact ⟨ga, gc, sa, sc, he, hg⟩
  have HW : Hid (∀ w1, Grew w w1 → Calls Tryd.prog 20 #[.slice none 0 0, .agg #[.int .i64 13, .string ⟨#[]⟩, .int .i64 0, .string ⟨#[]⟩, .slice none 0 0], .string ⟨#[97, 98]⟩, .int .i64 0, .int .i64 5, .int .i64 10] w1 fun e w' => ∃ ga gc, e = .returned (.tuple #[.slice ga 3 gc, .bool false, .int .i64 0]) ∧ Grew w1 w') :=
    fun w1 g => (Ways_any (p := arbW) (kv := .slice none 0 0) (s := ⟨#[97, 98]⟩) 0 5 10 (rules_none w1) (arbW_at w1) (by show 2 ≤ maxLen; unfold maxLen; omega) (by omega) (hT.kept g)).mono fun e w' ⟨hg, v, he, h1⟩ => by
      rw [alive_ways] at he h1
      obtain ⟨gs, k1, k2, k3⟩ := h1
      obtain ⟨ga, gc, rfl⟩ := ownsRow_form0 k2
      exact ⟨ga, gc, he, hg⟩
  clear hT
  go_enter Tryd.func9, Tryd.ntmps9
  go_wp2_with fail
  refine (HM.out _ (Grew.refl w)).mono ?_; rintro e w1 ⟨ga, gc, sa, sc, rfl, g1⟩
  have HG := hidd g1
  clear g1 HM
  go_wp2_with fail
  refine (HW.out _ (HG.out.alloc _)).mono ?_; rintro e w2 ⟨wa, wc, rfl, g2⟩
  have HG2 := hidd ((HG.out.alloc _).trans g2)
  have hb : w2.heap[w1.heap.size]? = some (.cells #[.bool true, .int .i64 1, .int .i64 2, .slice ga 0 gc, .slice sa 0 sc, .int .i64 2] 49 (0, 0)) := by
    rw [g2.block _ (by simp)]; exact heap_alloc_new w1 _
  have c0 : w2.cell? ⟨w1.heap.size, 0, none⟩ = some (.bool true) := by simp [World.cell?, hb]
  have c1 : w2.cell? ⟨w1.heap.size, 1, none⟩ = some (.int .i64 1) := by simp [World.cell?, hb]
  have c2 : w2.cell? ⟨w1.heap.size, 2, none⟩ = some (.int .i64 2) := by simp [World.cell?, hb]
  have c5 : w2.cell? ⟨w1.heap.size, 5, none⟩ = some (.int .i64 2) := by simp [World.cell?, hb]
  clear g2 HW hb
  go_wp2_with fail
  go_ret
  exact ⟨rfl, HG2.out⟩
end Go.Proofs.YtmkldfjcpmoajabDoor
