/- What a bound on how much is read says of patterns and rules. -/
import Derived.Test.YtcmdhgamlhnioaaDoorScNo
import Derived.Test.YtcmdhgamlhnioaaDoorScWrong
import Derived.Test.YtcmdhgamlhnioaaDoorRows
namespace Go.Proofs.YtcmdhgamlhnioaaDoor
open Go.RowKit Go.ChangeShapes
set_option linter.unusedVariables false
theorem bulk_part {H : Type} {d : DataW H} {l : List (DataW H)} (h : d ∈ l) : Rows.uptoBulk d ≤ Rows.uptoBulkAll l := by
  induction l with
  | nil => cases h
  | cons x r ih =>
    simp only [Rows.uptoBulkAll]
    rcases List.mem_cons.1 h with rfl | e
    · omega
    · have := ih e; omega
theorem bulk_kids {H : Type} : ∀ (l : List Pat) (es : List (DataW H)), l.length = es.length → (∀ i (h : i < l.length) (k : i < es.length), nodesP (l[i]'h) ≤ Rows.uptoBulk (es[i]'k)) → nodesL l ≤ Rows.uptoBulkAll es
  | [], es, h, _ => by rw [nodesL]; omega
  | p :: l, [], h, _ => by simp at h
  | p :: l, e :: es, h, hk => by
    rw [nodesL]
    simp only [Rows.uptoBulkAll]
    have h0 := hk 0 (by simp) (by simp)
    have := bulk_kids l es (by simpa using h) (fun i hi k => hk (i + 1) (by simp; omega) (by simp; omega))
    have h0 : nodesP p ≤ Rows.uptoBulk e := h0
    omega
section
variable {H : Type} {enc : TypeId × Value → H} {w : World} {base : Nat} {sp : Nat → Bool} {hd : Bool}
theorem pat_cells_inj {p q : Pat} {kv kq : Value} (h : (p.cells kv).toList = (q.cells kq).toList) : p.kind = q.kind ∧ p.text = q.text ∧ p.n = q.n ∧ p.name = q.name ∧ kv = kq := by
  simp [Pat.cells] at h
  exact ⟨h.1, h.2.1, h.2.2.1, h.2.2.2.1, h.2.2.2.2⟩
theorem bulk_pat : ∀ (fuel : Nat) (cs : List Value) (x : DataW H × List MemPlace), DataW.trod enc Tryd.prog w base sp hd fuel 25 cs = some x → ∀ (p : Pat) (kv : Value), cs = (p.cells kv).toList → PatV w kv p → nodesP p ≤ Rows.uptoBulk x.1 := by
  intro fuel
  induction fuel using Nat.strongRecOn with
  | _ fuel ih =>
    intro cs x h p kv hcs hp
    obtain ⟨xs, n, rfl, rfl, hl, hlen, hf⟩ := DataW.trod_struct Tryd.underlying25 h
    obtain ⟨y0, y1, y2, y3, y4, rfl⟩ := list_five hlen
    subst hcs
    have f4 : DataW.trod enc Tryd.prog w base sp hd n 23 [kv] = some y4 := by simpa [Pat.cells, cells_pats] using hf 4 _ rfl
    simp only [List.map_cons, List.map_nil, Rows.uptoBulk, Rows.uptoBulkAll]
    have hk : nodesL p.kids ≤ Rows.uptoBulk y4.1 := by
      rcases DataW.trod_slice Tryd.underlying23 f4 with ⟨e4, _⟩ | ⟨a, len, cap, elems, rest, n', rfl, e4, rfl, hb, hlc, hcm, hel, hall, _, _⟩
      · simp only [List.cons.injEq, and_true] at e4
        rcases hp.kids with ⟨b, c, e, e2⟩ | ⟨b, o, c, e, h0, _⟩
        · rw [e2, nodesL]; omega
        · rw [e4] at e; cases e
      · simp only [List.cons.injEq, and_true] at e4
        rcases hp.kids with ⟨b, c, e, e2⟩ | ⟨b, o, c, e, h0, h1, h2, h3⟩
        · rw [e2, nodesL]; omega
        · rw [e4] at e
          simp only [Value.slice.injEq, Option.some.injEq] at e
          obtain ⟨ea, el, ec⟩ := e
          subst ea
          subst el
          simp only [Rows.uptoBulk]
          have := bulk_kids p.kids (elems.map (·.1)) (by rw [List.length_map, hel]) (fun i hi k => by
            have hx := hall i hi
            have hie : i < elems.length := by omega
            rw [List.getElem?_eq_getElem hie] at hx
            obtain ⟨cs', k1, k2⟩ := Option.bind_eq_some_iff.1 hx
            rw [cells_pat] at k1
            obtain ⟨_, k3, hc⟩ := World.cells?_some k1
            obtain ⟨v0, v1, v2, v3, v4, rfl⟩ := list_five k3
            obtain ⟨kq, hnq, hvq⟩ := (h3 i hi).value
            have hgd : p.kids.getD i Pat.zero = p.kids[i] := by rw [List.getD_eq_getElem?_getD, List.getElem?_eq_getElem hi]; rfl
            rw [hgd] at hnq hvq
            have c0 := hc 0 (by omega)
            have c1 := hc 1 (by omega)
            have c2 := hc 2 (by omega)
            have c3 := hc 3 (by omega)
            have c4 := hc 4 (by omega)
            simp only [plain_add, Nat.add_zero, List.getElem?_cons_zero, List.getElem?_cons_succ] at c0 c1 c2 c3 c4
            rw [hnq.c0] at c0
            rw [hnq.c1] at c1
            rw [hnq.c2] at c2
            rw [hnq.c3] at c3
            rw [hnq.c4] at c4
            cases c0; cases c1; cases c2; cases c3; cases c4
            have := ih n' (by omega) _ _ k2 (p.kids[i]) _ rfl hvq
            rw [List.getElem_map]
            exact this)
          omega
    rw [nodesP_eq]
    omega
theorem bulk_patv {v : Value} {d : DataW H} {ps : List MemPlace} (h : DataW.Trod enc Tryd.prog w base sp hd 25 v d ps) {p : Pat} {kv : Value} (hv : v = .agg (p.cells kv)) (hp : PatV w kv p) : nodesP p ≤ Rows.uptoBulk d := by
  obtain ⟨fuel, h⟩ := h
  subst hv
  exact bulk_pat fuel _ _ h p kv (by simp [Value.cells]) hp
theorem bulk_rules {v : Value} {d : DataW H} {ps : List MemPlace} (h : DataW.Trod enc Tryd.prog w base sp hd 22 v d ps) {R : List Rule} (hR : RulesAt w v R) : ∀ r ∈ R, nodesP r.2 ≤ Rows.uptoBulk d := by
  obtain ⟨fuel, h⟩ := h
  intro r hr
  rcases hR with ⟨a, c, e, e2⟩ | ⟨b, o, c, e, h0, h1, h2, h3⟩
  · rw [e2] at hr; cases hr
  · subst e
    rcases DataW.trod_slice Tryd.underlying22 h with ⟨e4, _⟩ | ⟨a, len, cap, elems, rest, n', rfl, e4, ed, hb, hlc, hcm, hel, hall, _, _⟩
    · simp [Value.cells] at e4
    · have e5 : Value.slice (some ⟨b, o, none⟩) R.length c = .slice (some a) len cap := by simpa [Value.cells] using e4
      simp only [Value.slice.injEq, Option.some.injEq] at e5
      obtain ⟨ea, el, ec⟩ := e5
      subst ea
      subst el
      obtain ⟨i, hi, rfl⟩ := List.getElem_of_mem hr
      have hx := hall i hi
      have hie : i < elems.length := by omega
      rw [List.getElem?_eq_getElem hie] at hx
      obtain ⟨cs', k1, k2⟩ := Option.bind_eq_some_iff.1 hx
      rw [cells_rule] at k1
      obtain ⟨_, k3, hc⟩ := World.cells?_some k1
      obtain ⟨z0, z1, m, ez, hl, f0, f1⟩ := trod_struct2 Tryd.underlying59 k2
      obtain ⟨v0, v1, v2, v3, v4, v5, rfl⟩ := list_six k3
      obtain ⟨kq, hnq, hvq⟩ := (h3 i hi).2.2.value
      have hgd : R.getD i Rule.zero = R[i] := by rw [List.getD_eq_getElem?_getD, List.getElem?_eq_getElem hi]; rfl
      rw [hgd] at hnq hvq
      have c1 := hc 1 (by omega)
      have c2 := hc 2 (by omega)
      have c3 := hc 3 (by omega)
      have c4 := hc 4 (by omega)
      have c5 := hc 5 (by omega)
      simp only [plain_add, List.getElem?_cons_zero, List.getElem?_cons_succ] at c1 c2 c3 c4 c5
      have n0 := hnq.c0
      have n1 := hnq.c1
      have n2 := hnq.c2
      have n3 := hnq.c3
      have n4 := hnq.c4
      rw [n0] at c1
      rw [n1] at c2
      rw [n2] at c3
      rw [n3] at c4
      rw [n4] at c5
      cases c1; cases c2; cases c3; cases c4; cases c5
      simp only [cells_pat, List.drop, List.take] at f1
      have h5 := bulk_pat m _ _ f1 (R[i]).2 _ rfl hvq
      have h6 : Rows.uptoBulk z1.1 ≤ Rows.uptoBulk (elems[i]).1 := by
        rw [ez]; simp only [Rows.uptoBulk, Rows.uptoBulkAll]; omega
      have h7 := bulk_part (List.mem_map_of_mem (f := fun (x : DataW H × List MemPlace) => x.1) (List.getElem_mem hie))
      have h8 : Rows.uptoBulkAll (elems.map (·.1)) ≤ Rows.uptoBulk d := by
        have : d = .slice (elems.map (·.1)) (rest.map (·.1)) := congrArg Prod.fst ed
        rw [this]; simp only [Rows.uptoBulk]; omega
      omega
end
end Go.Proofs.YtcmdhgamlhnioaaDoor
