/- The laws' own helpers: all ways, alike; patterns made. -/
import Derived.Test.YtmkldfjcpmoajaaDoorScSameW
import Derived.Test.YtmkldfjcpmoajaaDoorScAlike
import Derived.Test.YtmkldfjcpmoajaaDoorScOpen
namespace Go.Proofs.YtmkldfjcpmoajaaDoor
open Go.RowKit
set_option linter.unusedVariables false
section
variable {R : List Rule} {w : World} {v kv kv' : Value} {p q : Pat} {s : ByteArray}
/-- What comes of 'all'. -/
def AllEnd (w : World) (r : List Way × Bool × Int) (e : Ending) (w' : World) : Prop := Grew w w' ∧ ∃ a c, e = .returned (.tuple #[.slice a r.1.length c, .bool r.2.1, .bool (allOk r)]) ∧ WaysV w' (.slice a r.1.length c) r.1
set_option maxRecDepth 100000 in
set_option maxHeartbeats 1000000 in
theorem all_any (a : Int) (hR : RulesAt w v R) (hp : PatV w kv p) (hs : s.size ≤ maxLen) (hT : TabP w) :
    Calls Tryd.prog 29 #[v, .agg (p.cells kv), .string s, .int .i64 a] w fun e w' => AllEnd w (allT R s p a) e w' := by
  obtain ⟨ra, rc, rfl, _⟩ := hR.len
  have HW : Hid (∀ w1, Grew w w1 → Calls Tryd.prog 20 #[.slice ra R.length rc, .agg (p.cells kv), .string s, .int .i64 a, .int .i64 4096, .int .i64 20000] w1 fun e w' => WaysEnd w1 (allT R s p a) e w') :=
    fun w1 g => Ways_any a 4096 20000 (hR.kept g) (hp.kept g) hs (by omega) (hT.kept g)
  clear hR hp hT hs
  unfold Pat.cells at HW ⊢
  obtain ⟨⟨l, c, er⟩, hr⟩ : ∃ r, allT R s p a = r := ⟨_, rfl⟩
  rw [hr] at HW ⊢
  clear hr
  have HW2 : Hid (∀ w1, Grew w w1 → Calls Tryd.prog 20 #[.slice ra R.length rc, .agg #[.int .i64 p.kind, .string p.text, .int .i64 p.n, .string p.name, kv], .string s, .int .i64 a, .int .i64 4096, .int .i64 20000] w1 fun e w' => Grew w1 w' ∧ ∃ b c', e = .returned (.tuple #[.slice b l.length c', .bool c, .int .i64 er]) ∧ WaysV w' (.slice b l.length c') l) :=
    fun w1 g => (HW.out w1 g).mono fun e w' ⟨h1, vv, h2, h3⟩ => by
      obtain ⟨gs, k1, k2, k3⟩ := h3
      obtain ⟨b, c', rfl⟩ := ownsRow_form0 k2
      exact ⟨h1, b, c', h2, .of_at ⟨gs, k1, k2, k3⟩⟩
  clear HW
  by_cases he : er = 0
  · subst he
    have HK : Hid (allOk (l, c, 0) = decide ((l.length : Int) < 4096)) := by
      unfold Hid allOk
      simp
      omega
    go_enter Tryd.func29, Tryd.ntmps29
    go_wp2_with fail
    refine (HW2.out _ ((Grew.refl w).alloc _)).mono ?_; rintro e w2 ⟨g2, b, c', rfl, hv⟩
    have HG := hidd (And.intro (((Grew.refl w).alloc _).trans g2) hv)
    clear g2 hv HW2
    by_cases hl : (l.length : Int) < 4096
    · go_wp2_with fail
      go_ret3
      exact ⟨HG.out.1, b, c', by rw [HK.out, decide_eq_true hl]; rfl, HG.out.2⟩
    · have hl' : decide ((l.length : Int) < 4096) = false := decide_eq_false hl
      go_wp2_with fail
      go_ret3
      exact ⟨HG.out.1, b, c', by rw [HK.out, hl']; rfl, HG.out.2⟩
  · have HK : Hid (allOk (l, c, er) = false) := by
      unfold Hid allOk
      simp [he]
    have he' : (er == 0) = false := by simp [he]
    clear he
    go_enter Tryd.func29, Tryd.ntmps29
    go_wp2_with fail
    refine (HW2.out _ ((Grew.refl w).alloc _)).mono ?_; rintro e w2 ⟨g2, b, c', rfl, hv⟩
    have HG := hidd (And.intro (((Grew.refl w).alloc _).trans g2) hv)
    clear g2 hv HW2
    go_wp2_with fail
    go_ret3
    exact ⟨HG.out.1, b, c', by rw [HK.out]; rfl, HG.out.2⟩

theorem box_five {w : World} {b : Nat} {v0 v1 v2 v3 v4 : Value} {t : TypeId} (h : w.heap[b]? = some (.cells #[v0, v1, v2, v3, v4] t (0, 0))) :
    w.cell? ⟨b, 0, none⟩ = some v0 ∧ w.cell? ⟨b, 1, none⟩ = some v1 ∧ w.cell? ⟨b, 2, none⟩ = some v2 ∧ w.cell? ⟨b, 3, none⟩ = some v3 ∧ w.cell? ⟨b, 4, none⟩ = some v4 := by
  simp [World.cell?, h]

set_option maxRecDepth 100000 in
set_option maxHeartbeats 2000000 in
theorem alike_any (a : Int) (hR : RulesAt w v R) (hp : PatV w kv p) (hq : PatV w kv' q) (hs : s.size ≤ maxLen) (hT : TabP w) :
    Calls Tryd.prog 24 #[v, .agg (p.cells kv), .agg (q.cells kv'), .string s, .int .i64 a] w fun e w' => e = .returned (.bool (alikeB R s p q a)) ∧ Grew w w' := by
  have HP : Hid (∀ w1, Grew w w1 → Calls Tryd.prog 29 #[v, .agg (p.cells kv), .string s, .int .i64 a] w1 fun e w' => AllEnd w1 (allT R s p a) e w') := fun w1 g => all_any a (hR.kept g) (hp.kept g) hs (hT.kept g)
  have HQ : Hid (∀ w1, Grew w w1 → Calls Tryd.prog 29 #[v, .agg (q.cells kv'), .string s, .int .i64 a] w1 fun e w' => AllEnd w1 (allT R s q a) e w') := fun w1 g => all_any a (hR.kept g) (hq.kept g) hs (hT.kept g)
  clear hR hp hq hT hs
  unfold Pat.cells at HP HQ ⊢
  have HB : Hid (alikeB R s p q a = (!allOk (allT R s p a) || (!allOk (allT R s q a) || ((allT R s p a).2.1 == (allT R s q a).2.1 && decide ((allT R s p a).1 = (allT R s q a).1))))) := rfl
  obtain ⟨x, hx⟩ : ∃ r, allT R s p a = r := ⟨_, rfl⟩
  obtain ⟨y, hy⟩ : ∃ r, allT R s q a = r := ⟨_, rfl⟩
  rw [hx, hy] at HB
  rw [hx] at HP
  rw [hy] at HQ
  clear hx hy
  obtain ⟨l, c, er⟩ := x
  obtain ⟨m, d, ef⟩ := y
  dsimp only at HB
  generalize alikeB R s p q a = res at HB ⊢
  unfold AllEnd at HP HQ
  dsimp only at HP HQ
  generalize allOk (l, c, er) = oa at HP HB
  generalize allOk (m, d, ef) = ob at HQ HB
  go_enter Tryd.func24, Tryd.ntmps24
  go_wp2_with fail
  refine (HP.out _ (((Grew.refl w).alloc _).alloc _)).mono ?_; rintro e w2 ⟨g2, b, c', rfl, hv⟩
  have HG := hidd ((((Grew.refl w).alloc _).alloc _).trans g2)
  have HV := hidd hv
  obtain ⟨k0, k1, k2, k3, k4⟩ := box_five (w := w2) (b := w.heap.size + 1) (by rw [g2.block _ (by simp)]; exact (heap_two w _ _).2)
  clear g2 hv HP
  go_wp2_with fail
  refine (HQ.out _ HG.out).mono ?_; rintro e w3 ⟨g3, b', c2, rfl, hv⟩
  have HG3 := hidd (HG.out.trans g3)
  have HC : Hid (Calls Tryd.prog 22 #[.slice b l.length c', .slice b' m.length c2] w3 fun e w' => e = .returned (.bool (decide (l = m))) ∧ ∃ n, w' = w3.drewN n) := SameWays_any (HV.out.kept g3) hv
  clear g3 hv HQ HV k0 k1 k2 k3 k4
  cases oa with
  | false =>
    go_wp2_with fail
    go_ret
    exact ⟨by rw [HB.out]; rfl, HG3.out⟩
  | true =>
    cases ob with
    | false =>
      go_wp2_with fail
      go_ret
      exact ⟨by rw [HB.out]; rfl, HG3.out⟩
    | true =>
      cases hcd : c == d with
      | false =>
        go_wp2_with fail
        go_ret
        exact ⟨by rw [HB.out, hcd]; rfl, HG3.out⟩
      | true =>
        have HCD := hidd hcd
        generalize decide (l = m) = ss at HC HB
        go_wp2_with fail
        refine HC.out.mono ?_; rintro e w4 ⟨rfl, n, rfl⟩
        go_wp2_with fail
        go_ret
        exact ⟨by rw [HB.out, HCD.out]; rfl, HG3.out.drewN n⟩
end
end Go.Proofs.YtmkldfjcpmoajaaDoor
