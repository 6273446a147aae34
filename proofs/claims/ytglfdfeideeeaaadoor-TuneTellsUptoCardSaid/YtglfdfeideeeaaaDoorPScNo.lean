/- How many nodes a pattern has, how deep it is. Plain. -/
import Derived.Test.YtglfdfeideeeaaaDoorPScTell
import Derived.Test.YtglfdfeideeeaaaDoorScWrong
import Derived.Test.YtglfdfeideeeaaaDoorRows
namespace Go.Proofs.YtglfdfeideeeaaaDoor
set_option linter.unusedVariables false
mutual
def nodesP : Pat → Nat
  | .mk _ _ _ _ l => 1 + nodesL l
def nodesL : List Pat → Nat
  | [] => 0
  | p :: l => nodesP p + nodesL l
end
mutual
def depthP : Pat → Nat
  | .mk _ _ _ _ l => 1 + depthL l
def depthL : List Pat → Nat
  | [] => 0
  | p :: l => max (depthP p) (depthL l)
end
theorem nodesP_pos (p : Pat) : 1 ≤ nodesP p := by cases p; rw [nodesP]; omega
theorem depthP_pos (p : Pat) : 1 ≤ depthP p := by cases p; rw [depthP]; omega
theorem nodesP_eq (p : Pat) : nodesP p = 1 + nodesL p.kids := by cases p; rfl
theorem depthP_eq (p : Pat) : depthP p = 1 + depthL p.kids := by cases p; rfl
theorem nodesL_append (a b : List Pat) : nodesL (a ++ b) = nodesL a + nodesL b := by
  induction a with
  | nil => simp [nodesL]
  | cons x a ih => rw [List.cons_append, nodesL, nodesL, ih]; omega
theorem length_le_nodes (l : List Pat) : l.length ≤ nodesL l := by
  induction l with
  | nil => simp [nodesL]
  | cons x l ih => have := nodesP_pos x; rw [nodesL, List.length_cons]; omega
theorem nodesL_mem {p : Pat} : ∀ {l : List Pat}, p ∈ l → nodesP p ≤ nodesL l
  | x :: l, h => by
    rw [nodesL]
    rcases List.mem_cons.1 h with rfl | h
    · omega
    · have := nodesL_mem h; omega
mutual
theorem sizeW_fits : ∀ (p : Pat) (d N D : Nat), 1 ≤ d → N + nodesP p ≤ 4096 → d + depthP p ≤ 201 → sizeW p d N D = (true, N + nodesP p, max D (d + depthP p - 1))
  | .mk k t n m l, d, N, D, hd, h1, h2 => by
    rw [nodesP] at h1 ⊢
    rw [depthP] at h2 ⊢
    rw [sizeW, if_pos (by omega), sizeL_fits l (d + 1) (N + 1) (max D d) (by omega) (by omega) (by omega)]
    have e1 : N + 1 + nodesL l = N + (1 + nodesL l) := by omega
    have e2 : (if l = [] then max D d else max (max D d) (d + 1 + depthL l - 1)) = max D (d + (1 + depthL l) - 1) := by
      split
      · rename_i e; subst e; rw [depthL]; omega
      · omega
    rw [e1, e2]
theorem sizeL_fits : ∀ (l : List Pat) (d N D : Nat), 1 ≤ d → N + nodesL l ≤ 4096 → d + depthL l ≤ 201 → sizeL l d N D = (true, N + nodesL l, if l = [] then D else max D (d + depthL l - 1))
  | [], d, N, D, hd, h1, h2 => rfl
  | p :: l, d, N, D, hd, h1, h2 => by
    rw [nodesL] at h1 ⊢
    rw [depthL] at h2 ⊢
    rw [sizeL, sizeW_fits p d N D hd (by omega) (by omega)]
    dsimp only
    rw [sizeL_fits l d (N + nodesP p) (max D (d + depthP p - 1)) hd (by omega) (by omega), if_neg (List.cons_ne_nil p l)]
    have := depthP_pos p
    have e1 : N + nodesP p + nodesL l = N + (nodesP p + nodesL l) := by omega
    have e2 : (if l = [] then max D (d + depthP p - 1) else max (max D (d + depthP p - 1)) (d + depthL l - 1)) = max D (d + max (depthP p) (depthL l) - 1) := by
      split
      · rename_i e; subst e; rw [depthL]; omega
      · omega
    rw [e1, e2]
end
mutual
theorem fits_sizeW : ∀ (p : Pat) (d N D : Nat), 1 ≤ d → (sizeW p d N D).1 = true → N + nodesP p ≤ 4096 ∧ d + depthP p ≤ 201
  | .mk k t n m l, d, N, D, hd, h => by
    rw [sizeW] at h
    split at h
    · rename_i h1
      have := fits_sizeL l (d + 1) (N + 1) (max D d) (by omega) (by omega) (by omega) h
      rw [nodesP, depthP]; omega
    · simp at h
theorem fits_sizeL : ∀ (l : List Pat) (d N D : Nat), 1 ≤ d → N ≤ 4096 → d ≤ 201 → (sizeL l d N D).1 = true → N + nodesL l ≤ 4096 ∧ d + depthL l ≤ 201
  | [], d, N, D, hd, hN, hd2, h => by rw [nodesL, depthL]; omega
  | p :: l, d, N, D, hd, hN, hd2, h => by
    rw [sizeL] at h
    obtain ⟨b, N', D', e⟩ : ∃ b N' D', sizeW p d N D = (b, N', D') := ⟨_, _, _, rfl⟩
    rw [e] at h
    cases b with
    | false => simp at h
    | true =>
      have h1 := fits_sizeW p d N D hd (by rw [e])
      rw [sizeW_fits p d N D hd h1.1 h1.2] at e
      cases e
      have h2 := fits_sizeL l d (N + nodesP p) _ hd (by omega) hd2 h
      rw [nodesL, depthL]; omega
end
theorem size_iff (p : Pat) : (sizeW p 1 0 0).1 = true ↔ nodesP p ≤ 4096 ∧ depthP p ≤ 200 := by
  constructor
  · intro h
    have := fits_sizeW p 1 0 0 (by omega) h
    omega
  · intro h
    rw [sizeW_fits p 1 0 0 (by omega) (by omega) (by omega)]
end Go.Proofs.YtglfdfeideeeaaaDoor

namespace Go.Proofs.YtglfdfeideeeaaaDoor
open Go.RowKit Go.ChangeShapes
set_option linter.unusedVariables false
theorem bulk_part {H : Type} {d : DataW H} {l : List (DataW H)} (h : d ∈ l) : Rows.uptoBulk d ≤ Rows.uptoBulkAll l := by
  induction l with
  | nil => cases h
  | cons x r ih =>
    simp only [Rows.uptoBulkAll]
    rcases List.mem_cons.1 h with rfl | e
    · omega
    · have := ih e; omega
theorem bulk_kids {H : Type} : ∀ (l : List Pat) (es : List (DataW H)), l.length = es.length → (∀ i (h : i < l.length) (k : i < es.length), nodesP (l[i]'h) ≤ Rows.uptoBulk (es[i]'k)) → nodesL l ≤ Rows.uptoBulkAll es
  | [], es, h, _ => by rw [nodesL]; omega
  | p :: l, [], h, _ => by simp at h
  | p :: l, e :: es, h, hk => by
    rw [nodesL]
    simp only [Rows.uptoBulkAll]
    have h0 := hk 0 (by simp) (by simp)
    have := bulk_kids l es (by simpa using h) (fun i hi k => hk (i + 1) (by simp; omega) (by simp; omega))
    have h0 : nodesP p ≤ Rows.uptoBulk e := h0
    omega
section
variable {H : Type} {enc : TypeId × Value → H} {w : World} {base : Nat} {sp : Nat → Bool} {hd : Bool}
theorem bulk_pat : ∀ (fuel : Nat) (cs : List Value) (x : DataW H × List MemPlace), DataW.trod enc Tryd.prog w base sp hd fuel 24 cs = some x → ∀ (p : Pat) (kv : Value), cs = (p.cells kv).toList → PatV w kv p → nodesP p ≤ Rows.uptoBulk x.1 := by
  intro fuel
  induction fuel using Nat.strongRecOn with
  | _ fuel ih =>
    intro cs x h p kv hcs hp
    obtain ⟨xs, n, rfl, rfl, hl, hlen, hf⟩ := DataW.trod_struct Tryd.underlying24 h
    obtain ⟨y0, y1, y2, y3, y4, rfl⟩ := list_five hlen
    subst hcs
    have f4 : DataW.trod enc Tryd.prog w base sp hd n 22 [kv] = some y4 := by simpa [Pat.cells, cells_pats] using hf 4 _ rfl
    simp only [List.map_cons, List.map_nil, Rows.uptoBulk, Rows.uptoBulkAll]
    have hk : nodesL p.kids ≤ Rows.uptoBulk y4.1 := by
      rcases DataW.trod_slice Tryd.underlying22 f4 with ⟨e4, _⟩ | ⟨a, len, cap, elems, rest, n', rfl, e4, rfl, hb, hlc, hcm, hel, hall, _, _⟩
      · simp only [List.cons.injEq, and_true] at e4
        rcases hp.kids with ⟨b, c, e, e2⟩ | ⟨b, o, c, e, h0, _⟩
        · rw [e2, nodesL]; omega
        · rw [e4] at e; cases e
      · simp only [List.cons.injEq, and_true] at e4
        rcases hp.kids with ⟨b, c, e, e2⟩ | ⟨b, o, c, e, h0, h1, h2, h3⟩
        · rw [e2, nodesL]; omega
        · rw [e4] at e
          simp only [Value.slice.injEq, Option.some.injEq] at e
          obtain ⟨ea, el, ec⟩ := e
          subst ea
          subst el
          simp only [Rows.uptoBulk]
          have := bulk_kids p.kids (elems.map (·.1)) (by rw [List.length_map, hel]) (fun i hi k => by
            have hx := hall i hi
            have hie : i < elems.length := by omega
            rw [List.getElem?_eq_getElem hie] at hx
            obtain ⟨cs', k1, k2⟩ := Option.bind_eq_some_iff.1 hx
            rw [cells_pat] at k1
            obtain ⟨_, k3, hc⟩ := World.cells?_some k1
            obtain ⟨v0, v1, v2, v3, v4, rfl⟩ := list_five k3
            obtain ⟨kq, hnq, hvq⟩ := (h3 i hi).value
            have hgd : p.kids.getD i Pat.zero = p.kids[i] := by rw [List.getD_eq_getElem?_getD, List.getElem?_eq_getElem hi]; rfl
            rw [hgd] at hnq hvq
            have c0 := hc 0 (by omega)
            have c1 := hc 1 (by omega)
            have c2 := hc 2 (by omega)
            have c3 := hc 3 (by omega)
            have c4 := hc 4 (by omega)
            simp only [plain_add, Nat.add_zero, List.getElem?_cons_zero, List.getElem?_cons_succ] at c0 c1 c2 c3 c4
            rw [hnq.c0] at c0
            rw [hnq.c1] at c1
            rw [hnq.c2] at c2
            rw [hnq.c3] at c3
            rw [hnq.c4] at c4
            cases c0; cases c1; cases c2; cases c3; cases c4
            have := ih n' (by omega) _ _ k2 (p.kids[i]) _ rfl hvq
            rw [List.getElem_map]
            exact this)
          omega
    rw [nodesP_eq]
    omega
theorem bulk_patv {v : Value} {d : DataW H} {ps : List MemPlace} (h : DataW.Trod enc Tryd.prog w base sp hd 24 v d ps) {p : Pat} {kv : Value} (hv : v = .agg (p.cells kv)) (hp : PatV w kv p) : nodesP p ≤ Rows.uptoBulk d := by
  obtain ⟨fuel, h⟩ := h
  subst hv
  exact bulk_pat fuel _ _ h p kv (by simp [Value.cells]) hp
end
end Go.Proofs.YtglfdfeideeeaaaDoor
