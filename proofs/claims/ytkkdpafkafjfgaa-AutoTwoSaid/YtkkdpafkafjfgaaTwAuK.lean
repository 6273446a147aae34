/- What 'explore' comes to: things in the order of coming, each once, and where each leads. Plain. -/
import Derived.Test.YtkkdpafkafjfgaaTwAuN
namespace Go.Proofs.Ytkkdpafkafjfgaa
set_option linter.unusedVariables false
set_option linter.unusedSectionVars false
section
variable {α : Type} [DecidableEq α]
structure Exp (first : α) (st : α → Nat → α) (D : α → Prop) (ks : List α) (rows : List (Nat → Nat)) (i c : Nat) (row : Nat → Nat) : Prop where
  head : ks.getD 0 first = first ∧ 0 < ks.length
  dis : ks.Nodup
  dom : ∀ x ∈ ks, D x
  len : rows.length = i
  old : ∀ s, s < i → ∀ d, d < 256 → st (ks.getD s first) d ∈ ks ∧ (rows.getD s fun _ => 0) d = ks.idxOf (st (ks.getD s first) d)
  new : ∀ d, d < c → st (ks.getD i first) d ∈ ks ∧ row d = ks.idxOf (st (ks.getD i first) d)
  le : i ≤ ks.length
variable {first : α} {st : α → Nat → α} {D : α → Prop} {ks : List α} {rows : List (Nat → Nat)} {i c : Nat} {row : Nat → Nat}
theorem Exp.start (h : D first) : Exp first st D [first] [] 0 0 (fun _ => 0) :=
  ⟨⟨rfl, by simp⟩, by simp, fun x hx => by rw [List.mem_singleton] at hx; rw [hx]; exact h, rfl, fun s hs => by omega, fun d hd => by omega, by simp⟩
theorem getD_lt_mem {l : List α} {k : Nat} {d : α} (h : k < l.length) : l.getD k d ∈ l := by
  rw [List.getD_eq_getElem?_getD, List.getElem?_eq_getElem h]; exact List.getElem_mem h
theorem getD_app_lt {l r : List α} {k : Nat} {d : α} (h : k < l.length) : (l ++ r).getD k d = l.getD k d := by
  rw [List.getD_eq_getElem?_getD, List.getD_eq_getElem?_getD, List.getElem?_append_left h]
theorem Exp.seen (h : Exp first st D ks rows i c row) (hm : st (ks.getD i first) c ∈ ks) : Exp first st D ks rows i (c + 1) (fun d => if d = c then ks.idxOf (st (ks.getD i first) c) else row d) := by
  refine ⟨h.head, h.dis, h.dom, h.len, h.old, fun d hd => ?_, h.le⟩
  by_cases e : d = c
  · subst e; rw [if_pos rfl]; exact ⟨hm, rfl⟩
  · rw [if_neg e]; exact h.new d (by omega)
theorem Exp.fresh (h : Exp first st D ks rows i c row) (hi : i < ks.length) (hd : D (st (ks.getD i first) c)) (hm : st (ks.getD i first) c ∉ ks) :
    Exp first st D (ks ++ [st (ks.getD i first) c]) rows i (c + 1) (fun d => if d = c then ks.length else row d) := by
  have hl : ∀ {y : α}, y ∈ ks → y ∈ ks ++ [st (ks.getD i first) c] := fun hy => List.mem_append_left _ hy
  refine ⟨⟨by rw [getD_app_lt h.head.2]; exact h.head.1, by rw [List.length_append]; have := h.head.2; omega⟩, nodup_snoc h.dis hm, fun x hx => ?_, h.len, fun s hs d hd2 => ?_, fun d hd2 => ?_, by rw [List.length_append]; have := h.le; omega⟩
  · rcases List.mem_append.1 hx with hx | hx
    · exact h.dom x hx
    · rw [List.mem_singleton] at hx; rw [hx]; exact hd
  · have := h.old s hs d hd2
    rw [getD_app_lt (by omega), idx_pre this.1]
    exact ⟨hl this.1, this.2⟩
  · rw [getD_app_lt hi]
    by_cases e : d = c
    · subst e; rw [if_pos rfl, idx_new hm]; exact ⟨by simp, rfl⟩
    · have := h.new d (by omega)
      rw [if_neg e, idx_pre this.1]
      exact ⟨hl this.1, this.2⟩
theorem Exp.rowed (h : Exp first st D ks rows i 256 row) (hi : i < ks.length) : Exp first st D ks (rows ++ [row]) (i + 1) 0 (fun _ => 0) := by
  refine ⟨h.head, h.dis, h.dom, by rw [List.length_append, h.len]; rfl, fun s hs d hd => ?_, fun d hd => by omega, by omega⟩
  by_cases e : s < i
  · rw [List.getD_eq_getElem?_getD (l := rows ++ [row]), List.getElem?_append_left (by rw [h.len]; exact e), ← List.getD_eq_getElem?_getD]
    exact h.old s e d hd
  · have : s = i := by omega
    subst this
    rw [List.getD_eq_getElem?_getD (l := rows ++ [row]), List.getElem?_append_right (by rw [h.len]; exact Nat.le_refl _), h.len, Nat.sub_self]
    exact h.new d hd
theorem Exp.congr (h : Exp first st D ks rows i c row) {r : Nat → Nat} (e : ∀ d, d < c → r d = row d) : Exp first st D ks rows i c r := ⟨h.head, h.dis, h.dom, h.len, h.old, fun d hd => by rw [e d hd]; exact h.new d hd, h.le⟩
def expA (en : α → Bool) (first : α) (ks : List α) (rows : List (Nat → Nat)) : RA := ⟨ks.length, fun s c => (rows.getD s fun _ => 0) c, fun s => en (ks.getD s first)⟩
theorem Exp.ok (h : Exp first st D ks rows ks.length c row) (en : α → Bool) : (expA en first ks rows).Ok :=
  ⟨h.head.2, fun s d hs hd => by obtain ⟨h1, h2⟩ := h.old s hs d hd; show (rows.getD s fun _ => 0) d < ks.length; rw [h2]; exact idx_lt h1⟩
def goS (st : α → Nat → α) (x : α) : List UInt8 → α
  | [] => x
  | c :: l => goS st (st x c.toNat) l
theorem Exp.tak (h : Exp first st D ks rows ks.length c row) (en : α → Bool) : ∀ (l : List UInt8) (s : Nat), s < ks.length → (expA en first ks rows).tak s l = en (goS st (ks.getD s first) l)
  | [], s, hs => rfl
  | d :: l, s, hs => by
    obtain ⟨h1, h2⟩ := h.old s hs d.toNat (u8_lt d)
    have h3 := idx_lt h1
    have := h.tak en l ((expA en first ks rows).nx s d.toNat) (by show (rows.getD s fun _ => 0) _ < _; rw [h2]; exact h3)
    unfold RA.tak at this ⊢
    rw [RA.go, this, goS]
    congr 2
    show ks.getD ((rows.getD s fun _ => 0) d.toNat) first = _
    rw [h2, List.getD_eq_getElem?_getD, idx_get h1]
    rfl
theorem Exp.lang (h : Exp first st D ks rows ks.length c row) (en : α → Bool) (l : List UInt8) : (expA en first ks rows).tak 0 l = en (goS st first l) := by rw [h.tak en l 0 h.head.2, h.head.1]
end
end Go.Proofs.Ytkkdpafkafjfgaa
