/- The document's each: pieces one behind the other; and again. -/
import Derived.Test.YtcmdhgamlhnioaaDoorScRA
import Derived.Shelf.Abstract
import Derived.Deep.DeepAppendWide
import Derived.Deep.Upon
import Derived.Deep.RegionHeld3
/-! The document's each: pieces one behind the other; and again. -/
namespace Go.Proofs.YtcmdhgamlhnioaaDoor
open Go.RowKit
set_option linter.unusedVariables false
/-- One behind the other. -/
def EachSpec {γ : Type} (E : Env) (O : OutP γ) (R : List Rule) (n : Nat) (l : List Pat) : Prop :=
  ∀ (w : World) (M : Nat → Prop) (s : LS γ) (v : Value) (a : Nat) (gv : Value) (h : List Gift) (d : Nat) (g : FuncId) (lb : Array Value) (K : Cont γ),
    St E O w M s → KidsAt E.w0 v l → (∀ q ∈ l, errW q = 0) → GV w M gv h → a ≤ E.S.size → s.ticks ≤ E.fuel → E.fuel ≤ s.ticks + n → s.ways ≤ E.V → h.length + d ≤ s.ticks → s.said.length + d ≤ 300000 * (s.ticks + s.ways) → ThenOk E O M w s.ticks d a g lb K →
    Calls Tryd.prog 34 #[.pointer (some ⟨E.lb, 0, none⟩), v, .int .i64 a, gv, .func (.func g) #[] lb] w fun r w' => r = .returned (.int .i64 ((runK E.fuel (cats (den R E.S (n + 1)) l a h) K s).1 : Nat)) ∧ ∃ M', Turn M M' w w' ∧ St E O w' M' (runK E.fuel (cats (den R E.S (n + 1)) l a h) K s).2
structure Box3 (lb : Nat) (M : Nat → Prop) (W : World) (b : Nat) (v fv : Value) : Prop where
  c5 : W.cell? ⟨b, 0, none⟩ = some (.pointer (some ⟨lb, 0, none⟩))
  c6 : W.cell? ⟨b + 1, 0, none⟩ = some v
  c9 : W.cell? ⟨b + 1 + 1, 0, none⟩ = some fv
  safe : ∀ k, b ≤ k → k < b + 3 → Safe M W k
theorem Box3.kept {lb : Nat} {M M' : Nat → Prop} {W W' : World} {b : Nat} {v fv : Value} (h : Box3 lb M W b v fv) (t : Turn M M' W W') : Box3 lb M' W' b v fv :=
  ⟨t.cell h.c5 (h.safe b (by omega) (by omega)).2, t.cell h.c6 (h.safe _ (by show b ≤ b + 1; omega) (by show b + 1 < b + 3; omega)).2, t.cell h.c9 (h.safe _ (by show b ≤ b + 1 + 1; omega) (by show b + 1 + 1 < b + 3; omega)).2, fun k h1 h2 => (h.safe k h1 h2).kept t⟩
section
variable {γ : Type} {E : Env} {O : OutP γ} {w : World} {M : Nat → Prop} {s : LS γ}
theorem St.grown (hO : OutOk E O) (h : St E O w M s) {w' : World} (g : Grew w w') : St E O w' M s := by
  obtain ⟨sv, ov, h⟩ := h
  exact ⟨sv, ov, h.grown hO g⟩
theorem box3 (hlt : ∀ k, M k → k < w.heap.size) (v fv : Value) : Box3 E.lb M (((w.alloc (.cells #[.pointer (some ⟨E.lb, 0, none⟩)] 51)).alloc (.cells #[v] 23)).alloc (.cells #[fv] 81)) w.heap.size v fv := by
  refine ⟨?_, ?_, ?_, fun k h1 h2 => ⟨by simp; omega, fun h => by have := hlt k h; omega⟩⟩
  · have : (w.alloc (.cells #[.pointer (some ⟨E.lb, 0, none⟩)] 51)).cell? ⟨w.heap.size, 0, none⟩ = some (.pointer (some ⟨E.lb, 0, none⟩)) := cell_of_heap (heap_alloc_new _ _) rfl
    exact (((Grew.refl _).alloc _).alloc _).keeps this
  · have : ((w.alloc (.cells #[.pointer (some ⟨E.lb, 0, none⟩)] 51)).alloc (.cells #[v] 23)).cell? ⟨w.heap.size + 1, 0, none⟩ = some v := by
      have := heap_alloc_new (w.alloc (.cells #[.pointer (some ⟨E.lb, 0, none⟩)] 51)) (.cells #[v] 23 (0, 0))
      rw [World.size_alloc] at this
      exact cell_of_heap this rfl
    exact ((Grew.refl _).alloc _).keeps this
  · have := heap_alloc_new ((w.alloc (.cells #[.pointer (some ⟨E.lb, 0, none⟩)] 51)).alloc (.cells #[v] 23)) (.cells #[fv] 81 (0, 0))
    rw [World.size_alloc, World.size_alloc] at this
    exact cell_of_heap this rfl
theorem kids_tail {w : World} {q : Pat} {l : List Pat} {b o c : Nat} (h : KidsAt w (.slice (some ⟨b, o, none⟩) (l.length + 1) c) (q :: l)) : KidsAt w (.slice (if c = 1 then some ⟨b, o, none⟩ else some ⟨b, o + 5, none⟩) l.length (c - 1)) l := by
  rcases h with ⟨a, c', e, e2⟩ | ⟨b', o', c', e, h0, hc, hc', hl⟩
  · cases e2
  · cases e
    have hc : l.length + 1 ≤ c := by simpa using hc
    rcases Nat.eq_zero_or_pos l.length with hz | hz
    · exact Or.inl ⟨_, _, by rw [hz], List.eq_nil_of_length_eq_zero hz⟩
    · rw [if_neg (by omega)]
      refine Or.inr ⟨b, o + 5, c - 1, rfl, hz, by omega, by omega, fun i hi => ?_⟩
      have := hl (i + 1) (by simp; omega)
      rw [show o + (i + 1) * 5 = o + 5 + i * 5 by omega] at this
      exact this
set_option maxRecDepth 100000 in
set_option maxHeartbeats 2000000 in
/-- What each does behind a piece. -/
theorem each_clo (hO : OutOk E O) {R : List Rule} {n : Nat} {q : Pat} {l : List Pat} (hE : EachSpec E O R n l) {W : World} {b kb ko c : Nat} {d lo a0 : Nat} {g : FuncId} {lb : Array Value} {K : Cont γ}
    (hB : Box3 E.lb M W b (.slice (some ⟨kb, ko, none⟩) (l.length + 1) c) (.func (.func g) #[] lb)) (hk : KidsAt E.w0 (.slice (some ⟨kb, ko, none⟩) (l.length + 1) c) (q :: l)) (he : ∀ x ∈ l, errW x = 0) (hf : E.fuel ≤ lo + n) (hf5 : E.fuel ≤ 100000) (hL : E.S.size ≤ 65536) (hR : DOk E.S.size E.fuel E.V (den R E.S (n + 1)))
    (hK : ThenOk E O M W lo d a0 g lb K) (hd : d ≤ lo) :
    ThenOk E O M W lo d a0 56 #[.pointer (some ⟨b, 0, none⟩), .pointer (some ⟨b + 1, 0, none⟩), .pointer (some ⟨b + 1 + 1, 0, none⟩)] (fun e h s => runK E.fuel (cats (den R E.S (n + 1)) l e h) K s) := by
  refine ⟨enters_of Tryd.func56 (by kernel_rfl) rfl, cats_onw hR hK.okay hd l, fun w' M' e gv h s t hs hg ha h0 h1 h2 hw h3 h4 => ?_⟩
  have hB' := hB.kept t
  have c5 := hB'.c5
  have c6 := hB'.c6
  have c9 := hB'.c9
  have HC : Hid (∀ w2, Grew w' w2 → Calls Tryd.prog 34 #[.pointer (some ⟨E.lb, 0, none⟩), .slice (if c = 1 then some ⟨kb, ko, none⟩ else some ⟨kb, ko + 5, none⟩) l.length (c - 1), .int .i64 e, gv, .func (.func g) #[] lb] w2 fun r w' => r = .returned (.int .i64 ((runK E.fuel (cats (den R E.S (n + 1)) l e h) K s).1 : Nat)) ∧ ∃ M'', Turn M' M'' w2 w' ∧ St E O w' M'' (runK E.fuel (cats (den R E.S (n + 1)) l e h) K s).2) := fun w2 g2 => by
    exact hE w2 M' s _ e gv h d g lb K (hs.grown hO g2) (kids_tail hk) he (hg.kept (Turn.of_grew g2)) ha h2 (by omega) hw h3 h4 (hK.later (t.trans (Turn.of_grew g2)) h1 h0)
  show Calls Tryd.prog 56 #[.int .i64 e, gv, .pointer (some ⟨b, 0, none⟩), .pointer (some ⟨b + 1, 0, none⟩), .pointer (some ⟨b + 1 + 1, 0, none⟩)] w' _
  obtain ⟨kr, hkr⟩ : ∃ kr, runK E.fuel (cats (den R E.S (n + 1)) l e h) K s = kr := ⟨_, rfl⟩
  rw [hkr] at HC ⊢
  obtain ⟨gp, gl, gc, rfl⟩ : ∃ p l c, gv = .slice p l c := by obtain ⟨p, c, e, _⟩ := (hg.1).len; exact ⟨_, _, _, e⟩
  obtain ⟨len, hlen⟩ : ∃ len, l.length + 1 = len := ⟨_, rfl⟩
  have hl1 : (1 : Int) ≤ (len : Int) := by omega
  have hl2 : l.length = len - 1 := by omega
  rw [hlen] at c6
  rw [hl2] at HC
  clear hB hK hE hk hB' hkr hg hs hlen hl2
  by_cases hc1 : c = 1
  · subst hc1
    rw [if_pos rfl] at HC
    go_enter Tryd.func56, Tryd.ntmps56
    go_wp2_with fail
    go_region_with
      ((go_at_call 34; refine (HC.out _ (Grew.refl w').drew).mono ?_; rintro r W2 ⟨rfl, hx⟩; have HX := hidd hx; clear hx))
    all_goals
      go_wp2_with fail
      go_ret
      obtain ⟨M2, t2, s2⟩ := HX.out
      exact ⟨rfl, M2, (Turn.of_grew (Grew.refl w').drew).trans t2, s2⟩
  · rw [if_neg hc1] at HC
    go_enter Tryd.func56, Tryd.ntmps56
    go_wp2_with fail
    go_region_with
      ((go_at_call 34; refine (HC.out _ (Grew.refl w').drew).mono ?_; rintro r W2 ⟨rfl, hx⟩; have HX := hidd hx; clear hx))
    all_goals
      go_wp2_with fail
      go_ret
      obtain ⟨M2, t2, s2⟩ := HX.out
      exact ⟨rfl, M2, (Turn.of_grew (Grew.refl w').drew).trans t2, s2⟩
end
end Go.Proofs.YtcmdhgamlhnioaaDoor
/-! The document's each: at all pieces. -/
namespace Go.Proofs.YtcmdhgamlhnioaaDoor
open Go.RowKit
set_option linter.unusedVariables false
section
variable {γ : Type} {E : Env} {O : OutP γ}
set_option maxRecDepth 100000 in
set_option maxHeartbeats 4000000 in
theorem each_any (hO : OutOk E O) {R : List Rule} {n : Nat} (hT : TrySpec E O R n) (hf5 : E.fuel ≤ 100000) (hL : E.S.size ≤ 65536) : ∀ l, EachSpec E O R n l
  | [] => fun w M s v a gv h d g lb K hs hk he hg ha ht hf hw hd hsd hK => by
    obtain ⟨p0, c0, rfl⟩ : ∃ p c, v = .slice p 0 c := by
      rcases hk with ⟨p, c, e, _⟩ | ⟨b, o, c, e, h0, _⟩
      · exact ⟨p, c, e⟩
      · exact absurd h0 (by simp)
    obtain ⟨sv, ov, hst⟩ := hs
    have HBx := hidd (box3 (E := E) hst.lt (.slice p0 0 c0) (.func (.func g) #[] lb))
    have HGr : Hid (Grew w (((w.alloc (.cells #[.pointer (some ⟨E.lb, 0, none⟩)] 51)).alloc (.cells #[.slice p0 0 c0] 23)).alloc (.cells #[.func (.func g) #[] lb] 81))) := (((Grew.refl w).alloc _).alloc _).alloc _
    have eg := hK.enters
    have HC : Hid (∀ w2, Grew w w2 → Calls Tryd.prog g (#[.int .i64 a, gv] ++ lb) w2 fun r w' => r = .returned (.int .i64 ((runK E.fuel (cats (den R E.S (n + 1)) [] a h) K s).1 : Nat)) ∧ ∃ M'', Turn M M'' w2 w' ∧ St E O w' M'' (runK E.fuel (cats (den R E.S (n + 1)) [] a h) K s).2) := fun w2 g2 => by
      show Calls _ _ _ _ fun r w' => r = .returned (.int .i64 ((runK E.fuel (Tr.one a h) K s).1 : Nat)) ∧ ∃ M'', Turn M M'' w2 w' ∧ St E O w' M'' (runK E.fuel (Tr.one a h) K s).2
      rw [runK_one]
      exact hK.calls w2 M a gv h s (Turn.of_grew g2) (St.grown hO ⟨sv, ov, hst⟩ g2) (hg.kept (Turn.of_grew g2)) ha (Nat.le_refl _) (Nat.le_refl _) ht hw hd hsd
    obtain ⟨kr, hkr⟩ : ∃ kr, runK E.fuel (cats (den R E.S (n + 1)) [] a h) K s = kr := ⟨_, rfl⟩
    rw [hkr] at HC ⊢
    obtain ⟨gp, gl, gc, rfl⟩ : ∃ p l c, gv = .slice p l c := by obtain ⟨p, c, e, _⟩ := (hg.1).len; exact ⟨_, _, _, e⟩
    clear hK hst hk he hg hT hkr ht hf hd hsd
    go_enter Tryd.func34, Tryd.ntmps34
    go_upto_region 1 with fail
    generalize (((w.alloc (.cells #[.pointer (some ⟨E.lb, 0, none⟩)] 51)).alloc (.cells #[.slice p0 0 c0] 23)).alloc (.cells #[.func (.func g) #[] lb] 81)) = W at HBx HGr ⊢
    have c5 := HBx.out.c5
    have c6 := HBx.out.c6
    have c9 := HBx.out.c9
    generalize w.heap.size = b at c5 c6 c9 ⊢
    go_wp2_with fail
    refine (HC.out W HGr.out).mono ?_; rintro r W2 ⟨rfl, hx⟩
    have HX := hidd hx
    clear hx
    go_wp2_with fail
    go_ret
    obtain ⟨M2, t2, s2⟩ := HX.out
    exact ⟨rfl, M2, (Turn.of_grew HGr.out).trans t2, s2⟩
  | q :: l => fun w M s v a gv h d g lb K hs hk he hg ha ht hf hw hd hsd hK => by
    obtain ⟨kb, ko, c, rfl, hlc, hcm, hq⟩ : ∃ kb ko c, v = .slice (some ⟨kb, ko, none⟩) (l.length + 1) c ∧ l.length + 1 ≤ c ∧ c ≤ maxLen ∧ PatAt E.w0 kb ko q := by
      rcases hk with ⟨p, c, e, e2⟩ | ⟨b, o, c, e, h0, h1, h2, h3⟩
      · cases e2
      · exact ⟨b, o, c, e, h1, h2, by have := h3 0 h0; simpa using this⟩
    obtain ⟨kv, hnode, hpv⟩ := hq.value
    have hstk := hs
    obtain ⟨sv, ov, hst⟩ := hs
    have HBx := hidd (box3 (E := E) hst.lt (.slice (some ⟨kb, ko, none⟩) (l.length + 1) c) (.func (.func g) #[] lb))
    have HGr : Hid (Grew w (((w.alloc (.cells #[.pointer (some ⟨E.lb, 0, none⟩)] 51)).alloc (.cells #[.slice (some ⟨kb, ko, none⟩) (l.length + 1) c] 23)).alloc (.cells #[.func (.func g) #[] lb] 81))) := (((Grew.refl w).alloc _).alloc _).alloc _
    have HC : Hid (∀ w1 w2 b, Grew w w1 → Box3 E.lb M w1 b (.slice (some ⟨kb, ko, none⟩) (l.length + 1) c) (.func (.func g) #[] lb) → Grew w1 w2 → Calls Tryd.prog 18 #[.pointer (some ⟨E.lb, 0, none⟩), .agg (q.cells kv), .int .i64 a, gv, .func (.func 56) #[] #[.pointer (some ⟨b, 0, none⟩), .pointer (some ⟨b + 1, 0, none⟩), .pointer (some ⟨b + 1 + 1, 0, none⟩)]] w2 fun r w' => r = .returned (.int .i64 ((runK E.fuel (cats (den R E.S (n + 1)) (q :: l) a h) K s).1 : Nat)) ∧ ∃ M'', Turn M M'' w2 w' ∧ St E O w' M'' (runK E.fuel (cats (den R E.S (n + 1)) (q :: l) a h) K s).2) := fun w1 w2 b g1 hB g2 => by
      show Calls _ _ _ _ fun r w' => r = .returned (.int .i64 ((runK E.fuel (Tr.bind (den R E.S (n + 1) q a h) (cats (den R E.S (n + 1)) l)) K s).1 : Nat)) ∧ ∃ M'', Turn M M'' w2 w' ∧ St E O w' M'' (runK E.fuel (Tr.bind (den R E.S (n + 1) q a h) (cats (den R E.S (n + 1)) l)) K s).2
      rw [runK_bind]
      have g3 := g1.trans g2
      have hD := den_onw (R := R) (S := E.S) (L := E.S.size) (fuel := E.fuel) (V := E.V) rfl hf5 (n + 1)
      exact hT w2 M s q kv a gv h d _ _ _ (hstk.grown hO g3) hpv (he q (by simp)) (hg.kept (Turn.of_grew g3)) ha ht hf hw hd (by omega)
        ((each_clo hO (each_any hO hT hf5 hL l) (hB.kept (Turn.of_grew g2)) hk (fun x hx => he x (by simp [hx])) hf hf5 hL hD (hK.later (Turn.of_grew g3) (Nat.le_refl _) (Nat.le_refl _)) (by omega)).later (Turn.refl _ _) (Nat.le_succ _) (Nat.le_refl _))
    obtain ⟨kr, hkr⟩ : ∃ kr, runK E.fuel (cats (den R E.S (n + 1)) (q :: l) a h) K s = kr := ⟨_, rfl⟩
    rw [hkr] at HC ⊢
    have HN := hidd (fun w1 (g1 : Grew w w1) => hnode.kept (hst.grew.trans g1))
    obtain ⟨gp, gl, gc, rfl⟩ : ∃ p l c, gv = .slice p l c := by obtain ⟨p, c, e, _⟩ := (hg.1).len; exact ⟨_, _, _, e⟩
    unfold Pat.cells at HC
    obtain ⟨len, hlen⟩ : ∃ len, l.length + 1 = len := ⟨_, rfl⟩
    have hl0 : ((len : Int) == 0) = false := by rw [beq_eq_false_iff_ne]; omega
    have hl1 : (0 : Int) < (len : Int) := by omega
    have hl2 : 0 < len := by omega
    rw [hlen] at HC HBx HGr ⊢
    clear hK hst hk he hg hT hkr ht hf hd hsd hstk hq hnode hpv hlen hlc hcm
    go_enter Tryd.func34, Tryd.ntmps34
    go_upto_region 1 with fail
    generalize (((w.alloc (.cells #[.pointer (some ⟨E.lb, 0, none⟩)] 51)).alloc (.cells #[.slice (some ⟨kb, ko, none⟩) len c] 23)).alloc (.cells #[.func (.func g) #[] lb] 81)) = W at HBx HGr ⊢
    have c5 := HBx.out.c5
    have c6 := HBx.out.c6
    have c9 := HBx.out.c9
    obtain ⟨k0, k1, k2, k3, k4, _, _, _, _⟩ := HN.out W HGr.out
    obtain ⟨b, hbb⟩ : ∃ b, w.heap.size = b := ⟨_, rfl⟩
    rw [hbb] at c5 c6 c9 HBx ⊢
    have HCb := hidd (HC.out W W.drew b HGr.out HBx.out (Grew.refl W).drew)
    clear HC HN hbb
    go_wp2_with fail
    go_region_with
      ((go_at_call 18; refine HCb.out.mono ?_; rintro r W2 ⟨rfl, hx⟩; have HX := hidd hx; clear hx))
    all_goals
      go_wp2_with fail
      go_ret
      obtain ⟨M2, t2, s2⟩ := HX.out
      exact ⟨rfl, M2, (Turn.of_grew HGr.out.drew).trans t2, s2⟩
end
end Go.Proofs.YtcmdhgamlhnioaaDoor
/-! The document's again: any number of times. -/
namespace Go.Proofs.YtcmdhgamlhnioaaDoor
open Go.RowKit
set_option linter.unusedVariables false
/-- What is behind first; then a kid that is not empty, and again. -/
def AgainSpec {γ : Type} (E : Env) (O : OutP γ) (R : List Rule) (n c : Nat) (q : Pat) : Prop :=
  ∀ (w : World) (M : Nat → Prop) (s : LS γ) (kv : Value) (a : Nat) (gv : Value) (h : List Gift) (d : Nat) (g : FuncId) (lb : Array Value) (K : Cont γ),
    St E O w M s → PatV E.w0 kv q → errW q = 0 → GV w M gv h → a ≤ E.S.size → s.ticks ≤ E.fuel → E.fuel ≤ s.ticks + n → E.fuel < s.ticks + c → s.ways ≤ E.V → h.length + d ≤ s.ticks → s.said.length + d ≤ 300000 * (s.ticks + s.ways) → ThenOk E O M w s.ticks d a g lb K →
    Calls Tryd.prog 35 #[.pointer (some ⟨E.lb, 0, none⟩), .agg (q.cells kv), .int .i64 a, gv, .func (.func g) #[] lb] w fun r w' => r = .returned (.int .i64 ((thenK (K a h s) (runK E.fuel (star (den R E.S (n + 1) q) c a h) K)).1 : Nat)) ∧ ∃ M', Turn M M' w w' ∧ St E O w' M' (thenK (K a h s) (runK E.fuel (star (den R E.S (n + 1) q) c a h) K)).2
section
variable {γ : Type} {E : Env} {O : OutP γ} {w : World} {M : Nat → Prop} {s : LS γ}
set_option maxRecDepth 100000 in
set_option maxHeartbeats 2000000 in
/-- What again does behind the kid. -/
theorem again_clo (hO : OutOk E O) {R : List Rule} {n c : Nat} {q : Pat} (hA : AgainSpec E O R n c q) {W : World} {b a : Nat} {kv : Value} {d lo : Nat} {g : FuncId} {lb : Array Value} {K : Cont γ}
    (hB : Boxed E.lb M W b q kv a (.func (.func g) #[] lb)) (hp : PatV E.w0 kv q) (he : errW q = 0) (hf : E.fuel ≤ lo + n) (hf2 : E.fuel < lo + c) (hD : DOk E.S.size E.fuel E.V (den R E.S (n + 1))) (hf5 : E.fuel ≤ 100000) (ha0 : a ≤ E.S.size) (hL : E.S.size ≤ 65536)
    (hK : ThenOk E O M W lo d a g lb K) (hd : d ≤ lo) :
    ThenOk E O M W lo d a 57 #[.pointer (some ⟨b + 1 + 1, 0, none⟩), .pointer (some ⟨b, 0, none⟩), .pointer (some ⟨b + 1, 0, none⟩), .pointer (some ⟨b + 1 + 1 + 1, 0, none⟩)] (starK E.fuel (den R E.S (n + 1) q) c a K) := by
  refine ⟨enters_of Tryd.func57 (by kernel_rfl) rfl, starK_onw hD hf5 hK.okay hd c, fun w' M' e gv h s t hs hg ha h0 h1 h2 hw h3 h4 => ?_⟩
  have hB' := hB.kept t
  have c5 := hB'.c5
  have c7 := hB'.c7
  have c9 := hB'.c9
  obtain ⟨q0, q1, q2, q3, q4⟩ := hB'.fields
  show Calls Tryd.prog 57 #[.int .i64 e, gv, .pointer (some ⟨b + 1 + 1, 0, none⟩), .pointer (some ⟨b, 0, none⟩), .pointer (some ⟨b + 1, 0, none⟩), .pointer (some ⟨b + 1 + 1 + 1, 0, none⟩)] w' _
  obtain ⟨gp, gl, gc, rfl⟩ : ∃ p l c, gv = .slice p l c := by obtain ⟨p, c, e, _⟩ := (hg.1).len; exact ⟨_, _, _, e⟩
  by_cases hea : e = a
  · subst hea
    have HY : Hid (starK E.fuel (den R E.S (n + 1) q) c e K e h s = (0, s)) := if_pos rfl
    rw [HY.out]
    have HS := hidd hs
    clear hB hK hA hB' hg hs HY
    go_enter Tryd.func57, Tryd.ntmps57
    go_wp2_with fail
    go_ret
    exact ⟨rfl, M', Turn.refl _ _, HS.out⟩
  · have e0 : ((e : Int) == (a : Int)) = false := by rw [beq_eq_false_iff_ne]; omega
    have HY : Hid (starK E.fuel (den R E.S (n + 1) q) c a K e h s = thenK (K e h s) (runK E.fuel (star (den R E.S (n + 1) q) c e h) K)) := if_neg hea
    rw [HY.out]
    have HC : Hid (Calls Tryd.prog 35 #[.pointer (some ⟨E.lb, 0, none⟩), .agg (q.cells kv), .int .i64 e, .slice gp gl gc, .func (.func g) #[] lb] w' fun r w' => r = .returned (.int .i64 ((thenK (K e h s) (runK E.fuel (star (den R E.S (n + 1) q) c e h) K)).1 : Nat)) ∧ ∃ M'', Turn M' M'' _ w' ∧ St E O w' M'' (thenK (K e h s) (runK E.fuel (star (den R E.S (n + 1) q) c e h) K)).2) :=
      hA w' M' s kv e _ h d g lb K hs hp he hg ha h2 (by omega) (by omega) hw h3 h4 (hK.later t h1 h0)
    obtain ⟨kr, hkr⟩ : ∃ kr, thenK (K e h s) (runK E.fuel (star (den R E.S (n + 1) q) c e h) K) = kr := ⟨_, rfl⟩
    rw [hkr] at HC ⊢
    unfold Pat.cells at HC
    clear hB hK hA hB' hkr hg hs hea HY
    go_enter Tryd.func57, Tryd.ntmps57
    go_wp2_with fail
    refine HC.out.mono ?_; rintro r W2 ⟨rfl, hx⟩
    have HX := hidd hx
    clear hx
    go_wp2_with fail
    go_ret
    exact ⟨rfl, HX.out⟩
set_option maxRecDepth 100000 in
set_option maxHeartbeats 4000000 in
theorem again_any (hO : OutOk E O) {R : List Rule} {n : Nat} (hT : TrySpec E O R n) (hf5 : E.fuel ≤ 100000) (hL : E.S.size ≤ 65536) (q : Pat) : ∀ c, AgainSpec E O R n c q
  | 0 => fun w M s kv a gv h d g lb K hs hp he hg ha ht hf hf2 hw hd hsd hK => by omega
  | c + 1 => fun w M s kv a gv h d g lb K hs hp he hg ha ht hf hf2 hw hd hsd hK => by
    have hstk := hs
    obtain ⟨sv, ov, hst⟩ := hs
    have HBx := hidd (boxed (E := E) hst.lt q kv a (.func (.func g) #[] lb))
    have HGr : Hid (Grew w ((((w.alloc (.cells #[.pointer (some ⟨E.lb, 0, none⟩)] 51)).alloc (.cells (q.cells kv) 25)).alloc (.cells #[.int .i64 a] 3)).alloc (.cells #[.func (.func g) #[] lb] 81))) := ((((Grew.refl w).alloc _).alloc _).alloc _).alloc _
    have eg := hK.enters
    have hon := hK.okay.half (g := h) ha (Nat.le_refl _) (Nat.le_refl _) ht hw hsd
    have hD := den_onw (R := R) (S := E.S) (L := E.S.size) (fuel := E.fuel) (V := E.V) rfl hf5 (n + 1)
    have HC : Hid (∀ w2, Grew w w2 → Calls Tryd.prog g (#[.int .i64 a, gv] ++ lb) w2 fun r w' => r = .returned (.int .i64 ((K a h s).1 : Nat)) ∧ ∃ M'', Turn M M'' w2 w' ∧ St E O w' M'' (K a h s).2) := fun w2 g2 =>
      hK.calls w2 M a gv h s (Turn.of_grew g2) (hstk.grown hO g2) (hg.kept (Turn.of_grew g2)) ha (Nat.le_refl _) (Nat.le_refl _) ht hw hd hsd
    have HU : Hid ((K a h s).1 = 0 → ∀ w2 M2 b, Turn M M2 w w2 → St E O w2 M2 (K a h s).2 → Boxed E.lb M2 w2 b q kv a (.func (.func g) #[] lb) → Calls Tryd.prog 18 #[.pointer (some ⟨E.lb, 0, none⟩), .agg (q.cells kv), .int .i64 a, gv, .func (.func 57) #[] #[.pointer (some ⟨b + 1 + 1, 0, none⟩), .pointer (some ⟨b, 0, none⟩), .pointer (some ⟨b + 1, 0, none⟩), .pointer (some ⟨b + 1 + 1 + 1, 0, none⟩)]] w2 fun r w' => r = .returned (.int .i64 ((runK E.fuel (star (den R E.S (n + 1) q) (c + 1) a h) K (K a h s).2).1 : Nat)) ∧ ∃ M'', Turn M2 M'' w2 w' ∧ St E O w' M'' (runK E.fuel (star (den R E.S (n + 1) q) (c + 1) a h) K (K a h s).2).2) := fun h0 w2 M2 b t2 hs2 hB2 => by
      rw [runK_star]
      exact hT w2 M2 _ q kv a gv h d _ _ _ hs2 hp he (hg.kept t2) ha hon.fuel (by have := hon.ticks; omega) (hon.stay h0) (by have := hon.ticks; omega) (by have := hon.cost; omega)
        (again_clo hO (again_any hO hT hf5 hL q c) hB2 hp he (by have := hon.ticks; omega) (by have := hon.ticks; omega) hD hf5 ha hL (hK.later t2 (by have := hon.ticks; omega) (Nat.le_refl _)) (by have := hon.ticks; omega))
    obtain ⟨kr, hkr⟩ : ∃ kr, K a h s = kr := ⟨_, rfl⟩
    rw [hkr] at HC HU ⊢
    obtain ⟨ur, hur⟩ : ∃ ur, runK E.fuel (star (den R E.S (n + 1) q) (c + 1) a h) K kr.2 = ur := ⟨_, rfl⟩
    rw [hur] at HU
    have HZ : Hid (thenK kr (runK E.fuel (star (den R E.S (n + 1) q) (c + 1) a h) K) = if kr.1 = 0 then ur else kr) := by rw [Hid, ← hur]; rfl
    rw [HZ.out]
    obtain ⟨gp, gl, gc, rfl⟩ : ∃ p l c, gv = .slice p l c := by obtain ⟨p, c, e, _⟩ := (hg.1).len; exact ⟨_, _, _, e⟩
    unfold Pat.cells at HU HBx HGr ⊢
    obtain ⟨k1, k2⟩ := kr
    clear hK hst hp he hg hT hkr hur ht hf hd hsd hstk hon hf2 HZ hD hw
    go_enter Tryd.func35, Tryd.ntmps35
    go_upto_region 1 with fail
    generalize ((((w.alloc (.cells #[.pointer (some ⟨E.lb, 0, none⟩)] 51)).alloc (.cells #[.int .i64 q.kind, .string q.text, .int .i64 q.n, .string q.name, kv] 25)).alloc (.cells #[.int .i64 a] 3)).alloc (.cells #[.func (.func g) #[] lb] 81)) = W at HBx HGr ⊢
    have c7 := HBx.out.c7
    have c9 := HBx.out.c9
    obtain ⟨b, hbb⟩ : ∃ b, w.heap.size = b := ⟨_, rfl⟩
    rw [hbb] at c7 c9 HBx ⊢
    go_wp2_with fail
    refine (HC.out W HGr.out).mono ?_; rintro r W2 ⟨rfl, M2, t2, s2⟩
    have HX := hidd (And.intro ((Turn.of_grew HGr.out).trans t2) s2)
    rcases Nat.eq_zero_or_pos k1 with rfl | hk1
    · have HB2 := hidd (HBx.out.kept t2)
      have HU2 := hidd (HU.out rfl W2 M2 b HX.out.1 s2 HB2.out)
      clear t2 s2 c7 c9 HU
      have c5 := HB2.out.c5
      have c7 := HB2.out.c7
      have c9 := HB2.out.c9
      obtain ⟨q0, q1, q2, q3, q4⟩ := HB2.out.fields
      go_wp2_with fail
      refine HU2.out.mono ?_; rintro r W3 ⟨rfl, hx⟩
      have HX3 := hidd hx
      clear hx
      go_wp2_with fail
      go_ret
      obtain ⟨M3, t3, s3⟩ := HX3.out
      exact ⟨rfl, M3, HX.out.1.trans t3, s3⟩
    · have e0 : ((k1 : Int) == 0) = false := by rw [beq_eq_false_iff_ne]; omega
      have HY : Hid ((if k1 = 0 then ur else ((k1, k2) : Nat × LS γ)) = (k1, k2)) := if_neg (by omega)
      clear t2 s2 HU
      go_wp2_with fail
      go_ret
      exact ⟨rfl, M2, HX.out.1, HX.out.2⟩
end
end Go.Proofs.YtcmdhgamlhnioaaDoor
/-! The document's with: gifts and one more. -/
namespace Go.Proofs.YtcmdhgamlhnioaaDoor
open Go.RowKit
set_option linter.unusedVariables false
theorem said_len : ∀ l : List Gift, (saidCells l).length = l.length * 2
  | [] => rfl
  | g :: l => by
    have := said_len l
    unfold saidCells at this ⊢
    rw [List.flatMap_cons, List.length_append, this, List.length_cons]
    simp; omega
theorem said_one : ∀ l : List Gift, ∀ u ∈ saidCells l, u.oneCell' = true := fun l u hu => by
  unfold saidCells at hu
  obtain ⟨g, _, h⟩ := List.mem_flatMap.1 hu
  simp at h
  rcases h with rfl | rfl <;> rfl
theorem gadd (b o j : Nat) : (⟨b, o, none⟩ : Addr).add j = ⟨b, o + j, none⟩ := by
  unfold Addr.add; split
  · next h0 => subst h0; rfl
  · rfl
theorem gifts_cells {w : World} {v : Value} {h : List Gift} (hg : GiftsU w v h) (h0 : h ≠ []) : ∃ b o c, v = .slice (some ⟨b, o, none⟩) h.length c ∧ ∀ j u, (saidCells h)[j]? = some u → w.cell? ((⟨b, o, none⟩ : Addr).add j) = some u := by
  rcases hg with ⟨_, _, _, e⟩ | ⟨b, o, c, rfl, h1, h2, h3, h4⟩
  · exact absurd e h0
  · refine ⟨b, o, c, rfl, fun j u hj => ?_⟩
    rw [gadd]
    have hl : j < h.length * 2 := by rw [← said_len]; exact (List.getElem?_eq_some_iff.1 hj).1
    obtain ⟨i, hi, hj2⟩ : ∃ i, i < h.length ∧ (j = i * 2 ∨ j = i * 2 + 1) := ⟨j / 2, by omega, by omega⟩
    obtain ⟨k1, k2⟩ := h4 i hi
    obtain ⟨e1, e2⟩ := cells_gift h i (h.getD i giftU) (by rw [List.getD_eq_getElem?_getD, List.getElem?_eq_getElem hi]; rfl)
    rcases hj2 with rfl | rfl
    · rw [e1] at hj; injection hj with hj; subst hj; exact k1
    · rw [e2] at hj; injection hj with hj; subst hj
      rw [← Nat.add_assoc]; exact k2
/-- The gifts are put into a row of their own. -/
theorem gifts_twin {w : World} {M : Nat → Prop} {gv : Value} {h : List Gift} (hg : GV w M gv h) (hn : h.length ≤ 100000) (o : Obj) (ho : o = .cells #[] 57 (0, 0)) : ∃ v w', (Builtin.append_ #[26, 26] 26 #[.slice (some ⟨w.heap.size, 0, none⟩) 0 0, gv]).run Tryd.prog (w.alloc o) = .ok v w' ∧ Grew w w' ∧ w'.ownsRow w.heap.size 57 2 v h.length (saidCells h) := by
  subst ho
  obtain ⟨i0, hi, hz0, hz1, hz2⟩ := info_parts info_gift
  have hown : (w.alloc (.cells #[] 57 (0, 0))).ownsRow w.heap.size 57 2 (.slice (some ⟨w.heap.size, 0, none⟩) 0 0) 0 [] :=
    ⟨rfl, Or.inr ⟨w.heap.size, 0, #[], rfl, Nat.le_refl _, heap_alloc_new w _, Nat.le_refl _, by unfold maxLen; omega, rfl, rfl⟩⟩
  by_cases h0 : h = []
  · subst h0
    obtain ⟨p, c, rfl⟩ : ∃ p c, gv = .slice p 0 c := by obtain ⟨p, c, e, _⟩ := hg.1.len; exact ⟨p, c, e⟩
    have hap := run_append_nothing (P := Tryd.prog) (w.alloc (.cells #[] 57 (0, 0))) 26 26 26 57 i0 Tryd.underlying26 hi (some ⟨w.heap.size, 0, none⟩) 0 0 (Nat.le_refl 0) (.slice p 0 c) (by
      cases p with
      | none => exact Src.ofNil _ Tryd.underlying26 c
      | some a => exact Src.ofSlice _ Tryd.underlying26 a 0 c [] (by simp) (fun j u hj => by simp at hj) (fun u hu => by cases hu))
    exact ⟨_, _, hap, (Grew.refl w).alloc _, hown⟩
  · obtain ⟨b, o, c, rfl, hc⟩ := gifts_cells hg.1 h0
    have gA : Grew w (w.alloc (.cells #[] 57 (0, 0))) := (Grew.refl w).alloc _
    obtain ⟨v, w', h1, h2, h3, _⟩ := run_append_own_wide (P := Tryd.prog) (w.alloc (.cells #[] 57 (0, 0))) w.heap.size 26 26 57 i0 _ 2 32 Tryd.underlying26 hi hz0 hz1 hz2 rfl (by decide) (.slice (some ⟨w.heap.size, 0, none⟩) 0 0) 0 [] hown ⟨b, o, none⟩ h.length c (saidCells h) (said_len h)
      (fun j u hj => gA.keeps (hc j u hj)) (said_one h) (by unfold maxLen; omega) (by omega) (by simp)
    rw [Nat.zero_add, List.nil_append] at h2
    exact ⟨v, w', h1, gA.grown h3 (fun b hb => by simp [Value.ownBlock] at hb; omega), h2⟩
theorem gv_own {w w' : World} {M : Nat → Prop} {v : Value} {h : List Gift} (hlt : ∀ k, M k → k < w.heap.size) (ho : w'.ownsRow w.heap.size 57 2 v h.length (saidCells h)) : GV w' M v h :=
  ⟨GiftsU.of_own ho, fun b hb => by
    obtain ⟨h1, h2⟩ := World.ownsRow.lt ho b hb
    exact ⟨h2, fun hm => by have := hlt b hm; omega⟩⟩
set_option maxRecDepth 100000 in
set_option maxHeartbeats 2000000 in
theorem with_any (w : World) (M : Nat → Prop) (gv : Value) (h : List Gift) (a b : ByteArray) (hg : GV w M gv h) (hn : h.length ≤ 100000) (hlt : ∀ k, M k → k < w.heap.size) :
    Calls Tryd.prog 37 #[gv, .string a, .string b] w fun r w' => ∃ p l c, r = .returned (.slice p l c) ∧ Grew w w' ∧ GV w' M (.slice p l c) (h ++ [(a, b)]) := by
  obtain ⟨v1, w1, hap, g1, own1⟩ := gifts_twin hg hn (.cells #[] 57 (0, 0)) rfl
  obtain ⟨i0, hi0, hz0, hz1, hz2⟩ := info_parts info_gift
  obtain ⟨gp, gc, rfl, hlc, hl9⟩ := hg.1.len
  obtain ⟨p1, c1, rfl⟩ : ∃ p c, v1 = .slice p h.length c := by
    rcases own1.2 with ⟨e, e2⟩ | ⟨g, cap, cur, e, _⟩
    · exact ⟨none, 0, by rw [e, e2]⟩
    · exact ⟨_, _, e⟩
  have HL := hidd hlt
  have hbs := g1.size
  obtain ⟨n, hnn⟩ : ∃ n, h.length = n := ⟨_, rfl⟩
  rw [hnn] at hap own1 hn ⊢
  clear hg hlt hlc hl9
  go_enter Tryd.func37, Tryd.ntmps37
  go_wp2_with (at_builtin; first
    | refine wpList_append_eq rfl rfl rfl rfl hap ?_
    | (refine wpList_append_lies _ rfl _ _ 26 rfl w.heap.size 57 i0 _ 2 32 Tryd.underlying26 hi0 hz0 hz1 hz2 rfl (by decide) (.slice p1 n c1) n (saidCells h) rfl (own1.alloc _) ⟨w1.heap.size, 0, none⟩ 1 1 [.string a, .string b] rfl rfl (World.news_of_block (cs := #[.string a, .string b]) (t := 57) (fr := (0, 0)) (heap_alloc_new w1 _)) (by simp [Value.oneCell']) (by omega) (by unfold maxLen; omega) (by omega) (by simp; omega) (w1.heap.size + 1) (by simp) ?_; intro gg cap w2 hown2 hgrow hat hlt))
  have hfin : Hid (w2.ownsRow w.heap.size 57 2 (.slice (some ⟨gg, 0, none⟩) (n + 1) cap) (h ++ [(a, b)]).length (saidCells (h ++ [(a, b)]))) := by
    rw [Hid, saidCells_snoc, List.length_append, hnn]; exact hown2
  have hg2 : Hid (Grew w w2) := (g1.alloc _).grown hgrow (fun b hb => (World.ownsRow.lt own1 b hb).1)
  clear hown2 hgrow hat hlt own1 g1 hap
  go_ret
  exact ⟨_, _, _, rfl, hg2.out, gv_own HL.out hfin.out⟩
end Go.Proofs.YtcmdhgamlhnioaaDoor
/-! What Try does behind the kid of a gift. -/
namespace Go.Proofs.YtcmdhgamlhnioaaDoor
open Go.RowKit
set_option linter.unusedVariables false
section
variable {γ : Type} {E : Env} {O : OutP γ} {w : World} {M : Nat → Prop} {s : LS γ}
theorem St.lt {w' : World} (h : St E O w' M s) : ∀ k, M k → k < w'.heap.size := by obtain ⟨sv, ov, h⟩ := h; exact h.lt
theorem St.text {w' : World} (h : St E O w' M s) : w'.cell? ⟨E.lb, 1, none⟩ = some (.string E.S) := by obtain ⟨sv, ov, h⟩ := h; exact h.cell rfl
set_option maxRecDepth 100000 in
set_option maxHeartbeats 4000000 in
theorem cond_clo (hO : OutOk E O) {p : Pat} {W : World} {b a : Nat} {kv : Value} {d lo : Nat} {g : FuncId} {lb : Array Value} {K : Cont γ}
    (hB : Boxed E.lb M W b p kv a (.func (.func g) #[] lb)) (hf5 : E.fuel ≤ 100000) (hL : E.S.size ≤ 65536) (hK : ThenOk E O M W lo d a g lb K) :
    ThenOk E O M W lo (d + 1) a 36 #[.pointer (some ⟨b + 1 + 1 + 1, 0, none⟩), .pointer (some ⟨b + 1, 0, none⟩), .pointer (some ⟨b, 0, none⟩), .pointer (some ⟨b + 1 + 1, 0, none⟩)] (fun e h s => K e (h ++ [(p.name, E.S.extract a e)]) s) := by
  refine ⟨enters_of Tryd.func36 (by kernel_rfl) rfl, fun e h u he k k1 k2 k3 k4 => (hK.okay e _ u he k k1 k2 k3 (by omega)).mono (Nat.le_succ _), fun w' M' e gv h s t hs hg ha h0 h1 h2 hw h3 h4 => ?_⟩
  have hB' := hB.kept t
  have c5 := hB'.c5
  have c7 := hB'.c7
  have c9 := hB'.c9
  obtain ⟨q0, q1, q2, q3, q4⟩ := hB'.fields
  have c1 := hs.text
  have eg := hK.enters
  have HW : Hid (∀ w2, Grew w' w2 → Calls Tryd.prog 37 #[gv, .string p.name, .string (E.S.extract a e)] w2 fun r w3 => ∃ p1 l1 c1, r = .returned (.slice p1 l1 c1) ∧ Grew w' w3 ∧ GV w3 M' (.slice p1 l1 c1) (h ++ [(p.name, E.S.extract a e)])) := fun w2 g2 => by
    refine (with_any w2 M' gv h p.name (E.S.extract a e) (hg.kept (Turn.of_grew g2)) (by omega) (fun k hk => Nat.lt_of_lt_of_le (hs.lt k hk) g2.size)).mono ?_
    rintro r w3 ⟨p1, l1, c1, hr, g3, hv⟩
    exact ⟨p1, l1, c1, hr, g2.trans g3, hv⟩
  have HT : Hid (∀ w3 v3, Grew w' w3 → GV w3 M' v3 (h ++ [(p.name, E.S.extract a e)]) → Calls Tryd.prog g (#[.int .i64 e, v3] ++ lb) w3 fun r w4 => r = .returned (.int .i64 ((K e (h ++ [(p.name, E.S.extract a e)]) s).1 : Nat)) ∧ ∃ M'', Turn M' M'' w3 w4 ∧ St E O w4 M'' (K e (h ++ [(p.name, E.S.extract a e)]) s).2) := fun w3 v3 g3 hv => by
    exact hK.calls w3 M' e v3 _ s (t.trans (Turn.of_grew g3)) (hs.grown hO g3) hv ha h0 h1 h2 hw (by rw [List.length_append]; simp; omega) (by omega)
  show Calls Tryd.prog 36 #[.int .i64 e, gv, .pointer (some ⟨b + 1 + 1 + 1, 0, none⟩), .pointer (some ⟨b + 1, 0, none⟩), .pointer (some ⟨b, 0, none⟩), .pointer (some ⟨b + 1 + 1, 0, none⟩)] w' _
  obtain ⟨gp, gl, gc, rfl⟩ : ∃ p l c, gv = .slice p l c := by obtain ⟨p, c, e, _⟩ := (hg.1).len; exact ⟨_, _, _, e⟩
  obtain ⟨kr, hkr⟩ : ∃ kr, K e (h ++ [(p.name, E.S.extract a e)]) s = kr := ⟨_, rfl⟩
  rw [hkr] at HT
  show Calls _ _ _ _ fun r w'' => r = .returned (.int .i64 ((K e (h ++ [(p.name, E.S.extract a e)]) s).1 : Nat)) ∧ ∃ M'', Turn M' M'' w' w'' ∧ St E O w'' M'' (K e (h ++ [(p.name, E.S.extract a e)]) s).2
  rw [hkr]
  have HB := hidd hB'
  have i1 : (a : Int) ≤ (e : Int) := by omega
  have i2 : (e : Int) ≤ (E.S.size : Int) := by omega
  have i3 : (0 : Int) ≤ (a : Int) := by omega
  clear hB hK hB' hkr hg hs
  go_enter Tryd.func36, Tryd.ntmps36
  go_wp2_with fail
  go_region_held3 (fun x => x.cell? ⟨b + 1 + 1 + 1, 0, none⟩ = some (.func (.func g) #[] lb) ∧ x.cell? ⟨b + 1, 3, none⟩ = some (.string p.name) ∧ x.cell? ⟨b, 0, none⟩ = some (.pointer (some ⟨E.lb, 0, none⟩)) ∧ x.cell? ⟨E.lb, 1, none⟩ = some (.string E.S) ∧ x.cell? ⟨b + 1 + 1, 0, none⟩ = some (.int .i64 a)) (first | go_keep | with_reducible exact hnm | with_reducible exact hnm2)
    (first
     | (go_at_call 37; refine (HW.out _ (Grew.refl w').drew).mono ?_; rintro r w3 ⟨p1, l1, d1, rfl, g3, hv⟩; have hnm : w3.cell? ⟨b + 1 + 1 + 1, 0, none⟩ = some (.func (.func g) #[] lb) ∧ w3.cell? ⟨b + 1, 3, none⟩ = some (.string p.name) ∧ w3.cell? ⟨b, 0, none⟩ = some (.pointer (some ⟨E.lb, 0, none⟩)) ∧ w3.cell? ⟨E.lb, 1, none⟩ = some (.string E.S) ∧ w3.cell? ⟨b + 1 + 1, 0, none⟩ = some (.int .i64 a) := ⟨g3.keeps c9, g3.keeps q3, g3.keeps c5, g3.keeps c1, g3.keeps c7⟩; have H3 := hidd (And.intro g3 (HT.out w3 _ g3 hv)); clear g3 hv)
     | (go_at_fn g; refine H3.out.2.mono ?_; rintro r w4 ⟨rfl, M4, t4, s4⟩; have HB4 := (HB.out.kept ((Turn.of_grew H3.out.1).trans t4)); have hnm2 : w4.cell? ⟨b + 1 + 1 + 1, 0, none⟩ = some (.func (.func g) #[] lb) ∧ w4.cell? ⟨b + 1, 3, none⟩ = some (.string p.name) ∧ w4.cell? ⟨b, 0, none⟩ = some (.pointer (some ⟨E.lb, 0, none⟩)) ∧ w4.cell? ⟨E.lb, 1, none⟩ = some (.string E.S) ∧ w4.cell? ⟨b + 1 + 1, 0, none⟩ = some (.int .i64 a) := ⟨HB4.c9, HB4.fields.2.2.2.1, HB4.c5, s4.text, HB4.c7⟩; have H4 := hidd (And.intro ((Turn.of_grew H3.out.1).trans t4) s4); clear t4 s4 HB4))
  all_goals
    go_wp2_with fail
    go_ret
    exact ⟨rfl, M4, H4.out.1, H4.out.2⟩
end
end Go.Proofs.YtcmdhgamlhnioaaDoor
