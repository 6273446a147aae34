/- A pattern, and rules, that came in: what their reading says. -/
import Derived.Test.YtmkldfjcpmoajabDoorScRules
import Derived.OpenShut
import Derived.Deep.Slices
import Derived.WideShapes
namespace Go.Proofs.YtmkldfjcpmoajabDoor
open Go.RowKit Go.ChangeShapes
set_option linter.unusedVariables false
theorem plain_addr {w : World} {a : Addr} {v : Value} (h : w.cell? a = some v) : a = ⟨a.block, a.off, none⟩ := by
  obtain ⟨b, o, sp⟩ := a
  cases sp with
  | none => rfl
  | some x =>
    unfold World.cell? at h
    split at h
    · simp at h
    · cases h
theorem plain_add (b o i : Nat) : (⟨b, o, none⟩ : Addr).add i = ⟨b, o + i, none⟩ := by
  unfold Addr.add; split
  · next h0 => subst h0; rfl
  · rfl
theorem cells_pat : Tryd.prog.cellsOf 28 = 5 := by kernel_rfl
theorem cells_rule : Tryd.prog.cellsOf 44 = 6 := by kernel_rfl
theorem cells_int : Tryd.prog.cellsOf 3 = 1 := by kernel_rfl
theorem cells_string : Tryd.prog.cellsOf 9 = 1 := by kernel_rfl
theorem cells_pats : Tryd.prog.cellsOf 26 = 1 := by kernel_rfl
/-- A list of so many, one for each place. -/
theorem list_of {α : Type} (z : α) (n : Nat) (f : Nat → α) : ((List.range n).map f).length = n ∧ ∀ i, i < n → ((List.range n).map f).getD i z = f i := by
  refine ⟨by simp, fun i hi => ?_⟩
  rw [List.getD_eq_getElem?_getD, List.getElem?_map, List.getElem?_range hi]; rfl
theorem choose_below {α : Type} (z : α) {n : Nat} {Q : Nat → α → Prop} (h : ∀ i, i < n → ∃ x, Q i x) : ∃ l : List α, l.length = n ∧ ∀ i, i < n → Q i (l.getD i z) := by
  induction n with
  | zero => exact ⟨[], rfl, fun i hi => by omega⟩
  | succ n ih =>
    obtain ⟨l, hl, hq⟩ := ih (fun i hi => h i (by omega))
    obtain ⟨x, hx⟩ := h n (by omega)
    refine ⟨l ++ [x], by simp [hl], fun i hi => ?_⟩
    by_cases e : i < n
    · rw [List.getD_eq_getElem?_getD, List.getElem?_append_left (by omega), ← List.getD_eq_getElem?_getD]; exact hq i e
    · obtain rfl : i = n := by omega
      rw [List.getD_eq_getElem?_getD, List.getElem?_append_right (by omega), hl, Nat.sub_self]; exact hx
theorem list_five {α : Type} : ∀ {l : List α}, l.length = 5 → ∃ a b c d e, l = [a, b, c, d, e]
  | [a, b, c, d, e], _ => ⟨a, b, c, d, e, rfl⟩
theorem list_six {α : Type} : ∀ {l : List α}, l.length = 6 → ∃ a b c d e f, l = [a, b, c, d, e, f]
  | [a, b, c, d, e, f], _ => ⟨a, b, c, d, e, f, rfl⟩
theorem list_two {α : Type} : ∀ {l : List α}, l.length = 2 → ∃ a b, l = [a, b]
  | [a, b], _ => ⟨a, b, rfl⟩
section
variable {H : Type} {enc : TypeId × Value → H} {w : World} {base : Nat} {sp : Nat → Bool} {hd : Bool}
theorem trod_five {P : Program} {t : TypeId} {f0 f1 f2 f3 f4 : Field} {fuel : Nat} {cs : List Value} {x : DataW H × List MemPlace} (ht : P.underlying t = some (.struct #[f0, f1, f2, f3, f4])) (h : DataW.trod enc P w base sp hd fuel t cs = some x) :
    ∃ y0 y1 y2 y3 y4 n, fuel = n + 1 ∧ cs.length = P.cellsOf t ∧ DataW.trod enc P w base sp hd n f0.type ((cs.drop f0.offset).take (P.cellsOf f0.type)) = some y0 ∧
      DataW.trod enc P w base sp hd n f1.type ((cs.drop f1.offset).take (P.cellsOf f1.type)) = some y1 ∧ DataW.trod enc P w base sp hd n f2.type ((cs.drop f2.offset).take (P.cellsOf f2.type)) = some y2 ∧
      DataW.trod enc P w base sp hd n f3.type ((cs.drop f3.offset).take (P.cellsOf f3.type)) = some y3 ∧ DataW.trod enc P w base sp hd n f4.type ((cs.drop f4.offset).take (P.cellsOf f4.type)) = some y4 := by
  obtain ⟨xs, n, e, _, hl, hlen, hf⟩ := DataW.trod_struct ht h
  obtain ⟨y0, y1, y2, y3, y4, rfl⟩ := list_five hlen
  exact ⟨y0, y1, y2, y3, y4, n, e, hl, by simpa using hf 0 f0 rfl, by simpa using hf 1 f1 rfl, by simpa using hf 2 f2 rfl, by simpa using hf 3 f3 rfl, by simpa using hf 4 f4 rfl⟩
theorem open_pat : ∀ (fuel : Nat) (cs : List Value) (x : DataW H × List MemPlace), DataW.trod enc Tryd.prog w base sp hd fuel 28 cs = some x → ∃ p kv, cs = (p.cells kv).toList ∧ PatV w kv p := by
  intro fuel
  induction fuel using Nat.strongRecOn with
  | _ fuel ih =>
    intro cs x h
    obtain ⟨y0, y1, y2, y3, y4, n, rfl, hl, f0, f1, f2, f3, f4⟩ := trod_five Tryd.underlying28 h
    rw [cells_pat] at hl
    clear h
    obtain ⟨c0, c1, c2, c3, c4, rfl⟩ := list_five hl
    simp only [cells_int, cells_string, cells_pats, List.drop, List.take] at f0 f1 f2 f3 f4
    obtain ⟨k, e0, _, hk⟩ := DataW.trod_int Tryd.underlying3 f0
    obtain ⟨t, e1, _, ht⟩ := DataW.trod_string Tryd.underlying9 f1
    obtain ⟨m, e2, _, hm⟩ := DataW.trod_int Tryd.underlying3 f2
    obtain ⟨nm, e3, _, hnm⟩ := DataW.trod_string Tryd.underlying9 f3
    have hk := bd_i64 hk
    have hm := bd_i64 hm
    simp only [List.cons.injEq, and_true] at e0 e1 e2 e3
    subst e0 e1 e2 e3
    rcases DataW.trod_slice Tryd.underlying26 f4 with ⟨e4, _⟩ | ⟨a, len, cap, elems, rest, n', rfl, e4, _, hb, hlc, hcm, hel, hall, _, _⟩
    · simp only [List.cons.injEq, and_true] at e4
      subst e4
      exact ⟨.mk k t m nm [], .slice none 0 0, rfl, Or.inl ⟨none, 0, rfl, rfl⟩, hk, hm, ht, hnm⟩
    · simp only [List.cons.injEq, and_true] at e4
      subst e4
      have hq : ∀ i, i < len → ∃ p : Pat, ∃ b o, a = ⟨b, o, none⟩ ∧ PatAt w b (o + i * 5) p := by
        intro i hi
        have hx := hall i hi
        rw [List.getElem?_eq_getElem (by omega)] at hx
        obtain ⟨cs', h1, h2⟩ := Option.bind_eq_some_iff.1 hx
        obtain ⟨p, kv, rfl, hv⟩ := ih n' (by omega) cs' _ h2
        rw [cells_pat] at h1
        obtain ⟨_, _, hc⟩ := World.cells?_some h1
        have hp : a = ⟨a.block, a.off, none⟩ := by
          have hx0 := hall 0 (by omega)
          rw [List.getElem?_eq_getElem (show 0 < elems.length by omega), Nat.zero_mul, show a.add 0 = a from rfl] at hx0
          obtain ⟨cs0, g1, g2⟩ := Option.bind_eq_some_iff.1 hx0
          obtain ⟨p0, kv0, rfl, _⟩ := ih n' (by omega) cs0 _ g2
          rw [cells_pat] at g1
          obtain ⟨_, _, gc⟩ := World.cells?_some g1
          exact plain_addr (v := .int .i64 p0.kind) (gc 0 (by omega))
        refine ⟨p, a.block, a.off, hp, ?_⟩
        rw [hp] at hc
        have c0 := hc 0 (by omega)
        have c1 := hc 1 (by omega)
        have c2 := hc 2 (by omega)
        have c3 := hc 3 (by omega)
        have c4 := hc 4 (by omega)
        simp only [plain_add, Nat.add_zero] at c0 c1 c2 c3 c4
        exact .shut ⟨c0, c1, c2, c3, c4, hv.hk, hv.hn, hv.ht, hv.hm⟩ hv.kids
      by_cases h0 : len = 0
      · subst h0
        exact ⟨.mk k t m nm [], .slice (some a) 0 cap, rfl, Or.inl ⟨some a, cap, rfl, rfl⟩, hk, hm, ht, hnm⟩
      · obtain ⟨_, b, o, hab, _⟩ := hq 0 (by omega)
        subst hab
        obtain ⟨l, hll, hlq⟩ := choose_below Pat.zero hq
        subst hll
        refine ⟨.mk k t m nm l, .slice (some ⟨b, o, none⟩) l.length cap, rfl, Or.inr ⟨b, o, cap, rfl, by show 0 < l.length; omega, hlc, hcm, fun i hi => ?_⟩, hk, hm, ht, hnm⟩
        obtain ⟨b', o', e, hp⟩ := hlq i hi
        cases e
        exact hp
/-- A rule that came in. -/
theorem open_rule {fuel : Nat} {cs : List Value} {x : DataW H × List MemPlace} (h : DataW.trod enc Tryd.prog w base sp hd fuel 44 cs = some x) : ∃ (r : Rule) (kv : Value), cs = (r.cells kv).toList ∧ r.1.size ≤ maxLen ∧ PatV w kv r.2 := by
  obtain ⟨y0, y1, n, _, hl, f0, f1⟩ := trod_struct2 Tryd.underlying44 h
  rw [cells_rule] at hl
  clear h
  obtain ⟨c0, c1, c2, c3, c4, c5, rfl⟩ := list_six hl
  simp only [cells_string, cells_pat, List.drop, List.take] at f0 f1
  obtain ⟨t, e1, _, ht⟩ := DataW.trod_string Tryd.underlying9 f0
  obtain ⟨p, kv, e2, hp⟩ := open_pat _ _ _ f1
  simp only [List.cons.injEq, and_true] at e1
  subst e1
  refine ⟨(t, p), kv, ?_, ht, hp⟩
  show _ :: [c1, c2, c3, c4, c5] = _
  rw [e2]; rfl
theorem rules_of {a : Option Addr} {len cap : Nat} {d : DataW H} {ps : List MemPlace} (h : DataW.Trod enc Tryd.prog w base sp hd 35 (.slice a len cap) d ps) : ∃ l, RulesAt w (.slice a len cap) l := by
  obtain ⟨fuel, h⟩ := h
  rcases DataW.trod_slice Tryd.underlying35 h with ⟨e4, _⟩ | ⟨a', len', cap', elems, rest, n', rfl, e4, _, hb, hlc, hcm, hel, hall, _, _⟩
  · have : Value.slice a len cap = .slice none 0 0 := by simpa [Value.cells] using e4
    exact ⟨[], Or.inl ⟨none, 0, this, rfl⟩⟩
  · have : Value.slice a len cap = .slice (some a') len' cap' := by simpa [Value.cells] using e4
    simp only [Value.slice.injEq] at this
    obtain ⟨rfl, rfl, rfl⟩ := this
    have hq : ∀ i, i < len → ∃ r : Rule, ∃ b o, a' = ⟨b, o, none⟩ ∧ (w.cell? ⟨b, o + i * 6, none⟩ = some (.string r.1) ∧ r.1.size ≤ maxLen ∧ PatAt w b (o + i * 6 + 1) r.2) := by
      intro i hi
      have hx := hall i hi
      rw [List.getElem?_eq_getElem (by omega)] at hx
      obtain ⟨cs', h1, h2⟩ := Option.bind_eq_some_iff.1 hx
      obtain ⟨r, kv, rfl, hs, hv⟩ := open_rule h2
      rw [cells_rule] at h1
      obtain ⟨_, _, hc⟩ := World.cells?_some h1
      have hp : a' = ⟨a'.block, a'.off, none⟩ := by
        have hx0 := hall 0 (by omega)
        rw [List.getElem?_eq_getElem (show 0 < elems.length by omega), Nat.zero_mul, show a'.add 0 = a' from rfl] at hx0
        obtain ⟨cs0, g1, g2⟩ := Option.bind_eq_some_iff.1 hx0
        obtain ⟨r0, kv0, rfl, _⟩ := open_rule g2
        rw [cells_rule] at g1
        obtain ⟨_, _, gc⟩ := World.cells?_some g1
        exact plain_addr (v := .string r0.1) (gc 0 (by omega))
      refine ⟨r, a'.block, a'.off, hp, ?_⟩
      rw [hp] at hc
      have c0 := hc 0 (by omega)
      have c1 := hc 1 (by omega)
      have c2 := hc 2 (by omega)
      have c3 := hc 3 (by omega)
      have c4 := hc 4 (by omega)
      have c5 := hc 5 (by omega)
      simp only [plain_add, Nat.add_zero] at c0 c1 c2 c3 c4 c5
      exact ⟨c0, hs, .shut ⟨c1, c2, c3, c4, c5, hv.hk, hv.hn, hv.ht, hv.hm⟩ hv.kids⟩
    by_cases h0 : len = 0
    · subst h0
      exact ⟨[], Or.inl ⟨some a', cap, rfl, rfl⟩⟩
    · obtain ⟨_, b, o, hab, _⟩ := hq 0 (by omega)
      subst hab
      obtain ⟨l, hll, hlq⟩ := choose_below Rule.zero hq
      subst hll
      refine ⟨l, Or.inr ⟨b, o, cap, rfl, by omega, hlc, hcm, fun i hi => ?_⟩⟩
      obtain ⟨b', o', e, hp⟩ := hlq i hi
      cases e
      exact hp
theorem pat_of {cs : Array Value} {d : DataW H} {ps : List MemPlace} (h : DataW.Trod enc Tryd.prog w base sp hd 28 (.agg cs) d ps) : ∃ p kv, cs = p.cells kv ∧ PatV w kv p := by
  obtain ⟨fuel, h⟩ := h
  obtain ⟨p, kv, e, hp⟩ := open_pat _ _ _ h
  exact ⟨p, kv, by simpa [Value.cells] using e, hp⟩
set_option maxRecDepth 100000 in
theorem open_rules {base' : Nat} {r : Reach} {v : Value} {d : DataW H} {ps : List MemPlace} (hval : Value.okWide Tryd.prog w r base' 35 v) (h : DataW.Trod enc Tryd.prog w base sp hd 35 v d ps) : ∃ R, RulesAt w v R := by
  obtain ⟨a, n, c, rfl⟩ := Go.WideShapes.okWide_slice Tryd.underlying35 hval
  exact rules_of h
set_option maxRecDepth 100000 in
theorem open_patv {base' : Nat} {r : Reach} {v : Value} {d : DataW H} {ps : List MemPlace} (hval : Value.okWide Tryd.prog w r base' 28 v) (h : DataW.Trod enc Tryd.prog w base sp hd 28 v d ps) : ∃ p kv, v = .agg (p.cells kv) ∧ PatV w kv p := by
  obtain ⟨cs, rfl, _⟩ := Go.WideShapes.okWide_struct Tryd.underlying28 hval
  obtain ⟨p, kv, rfl, hp⟩ := pat_of h
  exact ⟨p, kv, rfl, hp⟩
end
theorem laidOut : laidOutB Tryd.prog = true := by kernel_rfl
end Go.Proofs.YtmkldfjcpmoajabDoor
