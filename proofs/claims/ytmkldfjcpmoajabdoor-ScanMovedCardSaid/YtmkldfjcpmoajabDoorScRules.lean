/- slices.IndexFunc and ContainsFunc of rules; scan.Rules and scan.wrong. -/
import Derived.Test.YtmkldfjcpmoajabDoorScWrong
namespace Go.Proofs.YtmkldfjcpmoajabDoor
open Go.RowKit
set_option linter.unusedVariables false

def Rule.zero : Rule := (ByteArray.empty, Pat.zero)
/-- The slice v holds the rules l. -/
def RulesAt (w : World) (v : Value) (l : List Rule) : Prop :=
  (∃ a c, v = .slice a 0 c ∧ l = []) ∨ ∃ b o c : Nat, v = .slice (some ⟨b, o, none⟩) l.length c ∧ 0 < l.length ∧ l.length ≤ c ∧ c ≤ maxLen ∧
    ∀ i, i < l.length → w.cell? ⟨b, o + i * 6, none⟩ = some (.string (l.getD i Rule.zero).1) ∧ (l.getD i Rule.zero).1.size ≤ maxLen ∧ PatAt w b (o + i * 6 + 1) (l.getD i Rule.zero).2
theorem RulesAt.kept {w w' : World} (g : Grew w w') {v : Value} {l : List Rule} (h : RulesAt w v l) : RulesAt w' v l := by
  rcases h with h | ⟨b, o, c, h1, h2, h3, h4, h5⟩
  · exact Or.inl h
  · exact Or.inr ⟨b, o, c, h1, h2, h3, h4, fun i hi => ⟨g.keeps (h5 i hi).1, (h5 i hi).2.1, (h5 i hi).2.2.kept g⟩⟩
theorem RulesAt.len {w : World} {v : Value} {l : List Rule} (h : RulesAt w v l) : ∃ a c, v = .slice a l.length c ∧ l.length ≤ 9223372036854775807 := by
  rcases h with ⟨a, c, h, e⟩ | ⟨b, o, c, h, h0, h1, h2, _⟩
  · exact ⟨a, c, by rw [e]; exact h, by rw [e]; simp⟩
  · exact ⟨_, c, h, by unfold maxLen at h2; omega⟩
/-- A rule as one value. -/
def Rule.cells (r : Rule) (kv : Value) : Array Value := #[.string r.1, .int .i64 r.2.kind, .string r.2.text, .int .i64 r.2.n, .string r.2.name, kv]
/-- The rule at i: its cells. -/
structure RuleAt (w : World) (b o : Nat) (r : Rule) (kv : Value) : Prop where
  c : w.cell? ⟨b, o, none⟩ = some (.string r.1)
  hs : r.1.size ≤ maxLen
  node : NodeAt w b (o + 1) r.2 kv
  pat : PatV w kv r.2

def optInt : Option Nat → Int
  | some i => i
  | none => -1
theorem findIdx_hit {α : Type} (z : α) (t : α → Bool) : ∀ (l : List α) (k : Nat), k < l.length → t (l.getD k z) = true → (∀ j, j < k → t (l.getD j z) = false) → l.findIdx? t = some k
  | [], k, h, _, _ => by simp at h
  | x :: l, 0, _, h, _ => by
    rw [List.findIdx?_cons, if_pos (by simpa using h)]
  | x :: l, k + 1, h, ht, hn => by
    have h0 : t x = false := by simpa using hn 0 (by omega)
    rw [List.findIdx?_cons, if_neg (by rw [h0]; simp), findIdx_hit z t l k (by simpa using h) (by simpa using ht) (fun j hj => by simpa using hn (j + 1) (by omega))]
    rfl
theorem findIdx_no {α : Type} (z : α) (t : α → Bool) : ∀ (l : List α), (∀ j, j < l.length → t (l.getD j z) = false) → l.findIdx? t = none
  | [], _ => rfl
  | x :: l, hn => by
    have h0 : t x = false := by simpa using hn 0 (by simp)
    rw [List.findIdx?_cons, if_neg (by rw [h0]; simp), findIdx_no z t l (fun j hj => by simpa using hn (j + 1) (by simpa using hj))]
    rfl
theorem rule_open {w : World} {b o : Nat} {r : Rule} (h : w.cell? ⟨b, o, none⟩ = some (.string r.1) ∧ r.1.size ≤ maxLen ∧ PatAt w b (o + 1) r.2) : ∃ kv, RuleAt w b o r kv := by
  obtain ⟨kv, h1, h2⟩ := h.2.2.value
  exact ⟨kv, h.1, h.2.1, h1, h2⟩

set_option maxRecDepth 100000 in
/-- slices.IndexFunc of rules: a test that answers t i at the i-th one. -/
theorem IndexFunc_any (f : FuncId) (x : Value) (hfo : f = 37 ∨ f = 43) (t : Rule → Bool) (l : List Rule) (b o c : Nat) (w : World) (hl : 0 < l.length) (hc : l.length ≤ c) (hc' : c ≤ maxLen)
    (hr : ∀ i, i < l.length → w.cell? ⟨b, o + i * 6, none⟩ = some (.string (l.getD i Rule.zero).1) ∧ (l.getD i Rule.zero).1.size ≤ maxLen ∧ PatAt w b (o + i * 6 + 1) (l.getD i Rule.zero).2)
    (hf : ∀ i, i < l.length → ∀ kv w1, Grew w w1 → PatV w1 kv (l.getD i Rule.zero).2 → Calls Tryd.prog f #[.agg ((l.getD i Rule.zero).cells kv), x] w1 fun e w' => e = .returned (.bool (t (l.getD i Rule.zero))) ∧ Grew w1 w') :
    Calls Tryd.prog 42 #[.slice (some ⟨b, o, none⟩) l.length c, .func (.func f) #[] #[x]] w fun e w' =>
      e = .returned (.int .i64 (optInt (l.findIdx? t))) ∧ Grew w w' := by
  unfold maxLen at hc'
  have HR := hidd hr
  have HF := hidd hf
  clear hr hf
  rcases hfo with rfl | rfl
  all_goals
    go_enter Tryd.func42, Tryd.ntmps42
    go_wp2_with fail
    go_loopw [5, 8] (fun _ u wr => ∃ k : Nat, k ≤ l.length ∧ u = .int .i64 k ∧ Hid (∀ j, j < k → t (l.getD j Rule.zero) = false) ∧ Hid (Grew w wr)) (fun _ u _ => l.length - (intOf u).toNat)
    case atStart => exact ⟨0, by omega, rfl, fun j hj => absurd hj (by omega), Grew.refl _⟩
    case round =>
      obtain ⟨k, hk, rfl, HN, HG⟩ := hrel
      by_cases hlt : k < l.length
      · obtain ⟨kv, h⟩ := rule_open (r := l.getD k Rule.zero) ⟨HG.out.keeps (HR.out k hlt).1, (HR.out k hlt).2.1, (HR.out k hlt).2.2.kept HG.out⟩
        have hF := HF.out k hlt kv wr HG.out h.pat
        have HT : Hid (t (l.getD k Rule.zero) = true → l.findIdx? t = some k) := fun e => findIdx_hit Rule.zero t l k hlt e HN.out
        have HT2 : Hid (t (l.getD k Rule.zero) = false → ∀ j, j < k + 1 → t (l.getD j Rule.zero) = false) := fun e j hj => by
          by_cases e2 : j = k
          · rw [e2]; exact e
          · exact HN.out j (by omega)
        obtain ⟨r, hr⟩ : ∃ r, l.getD k Rule.zero = r := ⟨_, rfl⟩
        rw [hr] at h hF HT HT2
        unfold Rule.cells at hF
        obtain ⟨c0, hs, ⟨c1, c2, c3, c4, c5, _, _, _, _⟩, _⟩ := h
        have HFF := hidd hF
        clear hF hr HF
        cases ht : t r with
        | true =>
          rw [ht] at HFF HT
          clear ht
          go_wp2_with fail
          refine HFF.out.mono ?_; rintro e w2 ⟨rfl, G2⟩
          have G3 := hidd (HG.out.trans G2)
          clear G2
          go_wp2_with fail
          go_ret
          rw [HT.out (by first | rfl | trivial)]
          exact ⟨rfl, G3.out⟩
        | false =>
          rw [ht] at HFF HT2
          clear ht
          go_wp2_with fail
          refine HFF.out.mono ?_; rintro e w2 ⟨rfl, G2⟩
          have G3 := hidd (HG.out.trans G2)
          clear G2
          go_wp2_with fail
          go_roundw
          case rel => exact ⟨k + 1, by omega, by go_num, HT2.out (by first | rfl | trivial), G3⟩
          case measure => simp [intOf]; omega
      · obtain rfl : k = l.length := by omega
        have HE := hidd (findIdx_no Rule.zero t l HN.out)
        go_wp2_with fail
        go_ret
        rw [HE.out]
        exact ⟨rfl, HG.out⟩
theorem IndexFunc_none (F : Value) (a : Option Addr) (c : Nat) (w : World) :
    Calls Tryd.prog 42 #[.slice a 0 c, F] w fun e w' => e = .returned (.int .i64 (-1)) ∧ w = w' := by
  go_enter Tryd.func42, Tryd.ntmps42
  go_wp2_with fail
  go_loop [5, 8] (fun _ u => u = .int .i64 0) (fun _ _ => 0)
  case atStart => rfl
  case round =>
    obtain rfl := hrel
    go_wp2_with fail
    go_ret
    exact ⟨rfl, rfl⟩
/-- At every list of rules. -/
theorem IndexFunc_rules (f : FuncId) (x : Value) (hfo : f = 37 ∨ f = 43) (t : Rule → Bool) (v : Value) (l : List Rule) (w : World) (hv : RulesAt w v l)
    (hf : ∀ r ∈ l, ∀ kv w1, Grew w w1 → PatV w1 kv r.2 → Calls Tryd.prog f #[.agg (r.cells kv), x] w1 fun e w' => e = .returned (.bool (t r)) ∧ Grew w1 w') :
    Calls Tryd.prog 42 #[v, .func (.func f) #[] #[x]] w fun e w' =>
      e = .returned (.int .i64 (optInt (l.findIdx? t))) ∧ Grew w w' := by
  rcases hv with ⟨a, c, rfl, rfl⟩ | ⟨b, o, c, rfl, h0, h1, h2, h3⟩
  · exact (IndexFunc_none _ a c w).mono fun e w' ⟨h, k⟩ => ⟨h, k ▸ Grew.refl _⟩
  · refine IndexFunc_any f x hfo t l b o c w h0 h1 h2 h3 (fun i hi => hf _ ?_)
    rw [List.getD_eq_getElem?_getD, List.getElem?_eq_getElem hi]; exact List.getElem_mem hi
theorem ContainsFunc_rules (f : FuncId) (x : Value) (hfo : f = 37 ∨ f = 43) (t : Rule → Bool) (v : Value) (l : List Rule) (w : World) (hv : RulesAt w v l) (hl : l.length ≤ 1000)
    (hf : ∀ r ∈ l, ∀ kv w1, Grew w w1 → PatV w1 kv r.2 → Calls Tryd.prog f #[.agg (r.cells kv), x] w1 fun e w' => e = .returned (.bool (t r)) ∧ Grew w1 w') :
    Calls Tryd.prog 36 #[v, .func (.func f) #[] #[x]] w fun e w' => e = .returned (.bool (l.any t)) ∧ Grew w w' := by
  have HC := hidd (IndexFunc_rules f x hfo t v l w hv hf)
  have HA : Hid (l.any t = (l.findIdx? t).isSome) := by rw [Hid, List.findIdx?_isSome]
  clear hv hf
  go_enter Tryd.func36, Tryd.ntmps36
  go_wp2_with fail
  cases h : l.findIdx? t with
  | some i =>
    rw [h] at HA HC
    clear h
    refine HC.out.mono ?_; rintro e w2 ⟨rfl, G2⟩
    have e0 : decide ((0 : Int) ≤ (i : Int)) = true := decide_eq_true (by omega)
    have G3 := hidd G2
    clear G2
    go_wp2_with fail
    go_ret
    rw [HA.out]
    exact ⟨rfl, G3.out⟩
  | none =>
    rw [h] at HA HC
    clear h
    refine HC.out.mono ?_; rintro e w2 ⟨rfl, G2⟩
    have G3 := hidd G2
    clear G2
    go_wp2_with fail
    go_ret
    rw [HA.out]
    exact ⟨rfl, G3.out⟩

/-- Whether a rule has the name of another one. -/
theorem same_name (r q : Rule) (kv : Value) (a : Nat) (w : World) (hc : w.cell? ⟨a, 0, none⟩ = some (.string q.1)) :
    Calls Tryd.prog 37 #[.agg (r.cells kv), .pointer (some ⟨a, 0, none⟩)] w fun e w' => e = .returned (.bool (sameText r.1 q.1)) ∧ Grew w w' := by
  have hlt := lt_of_cell hc
  unfold Rule.cells
  have HE : Hid (sameText r.1 q.1 = (r.1.toList == q.1.toList)) := by rw [Hid, Lib.toList_data, Lib.toList_data]; rfl
  have c2 : ∀ o, (w.alloc o).cell? ⟨a, 0, none⟩ = some (.string q.1) := fun o => ((Grew.refl w).alloc o).keeps hc
  go_enter Tryd.func37, Tryd.ntmps37
  go_wp2_with fail
  go_ret
  rw [HE.out]
  exact ⟨rfl, (Grew.refl _).alloc _⟩
end Go.Proofs.YtmkldfjcpmoajabDoor
