/- The contracts that the laws of chapter 6 use, in the form in which they use them. -/
import Derived.Test.YtmcfoefhenmjeaaDoorTnLen
import Derived.Test.YtmcfoefhenmjeaaDoorTnLenP
import Derived.Test.YtmcfoefhenmjeaaDoorScMatch
import Derived.Test.YtmcfoefhenmjeaaDoorScWays
namespace Go.Proofs.YtmcfoefhenmjeaaDoor
open Go.RowKit
set_option linter.unusedVariables false
/-- The library's tables. -/
def Tabs (w : World) : Prop := TabP w ∧ TabZ w
theorem form_of {w : World} {v : Value} {l : List Pat} (h : KidsAt w v l) : ∃ b n c, v = .slice b n c := by
  rcases h with ⟨a, c, rfl, _⟩ | ⟨b, o, c, rfl, _⟩ <;> exact ⟨_, _, _, rfl⟩
section
variable {R : List Rule} {w : World} {p : Pat} {s : ByteArray} {kv : Value} {ra : Option Addr} {rc : Nat}
theorem ways_told (at_ : Int) (hR : RulesAt w (.slice ra R.length rc) R) (hp : PatV w kv p) (hs : s.size ≤ maxLen) (hT : Tabs w) :
    Calls Tryd.prog 21 #[.slice ra R.length rc, .agg #[.int .i64 p.kind, .string p.text, .int .i64 p.n, .string p.name, kv], .string s, .int .i64 at_, .int .i64 4096, .int .i64 20000] w fun e w' => ∃ va vc, e = .returned (.tuple #[.slice va (waysOf R p s at_ 4096 20000).1.length vc, .bool (waysOf R p s at_ 4096 20000).2.1, .int .i64 (waysOf R p s at_ 4096 20000).2.2]) ∧ Grew w w' ∧ WaysV w' (.slice va (waysOf R p s at_ 4096 20000).1.length vc) (waysOf R p s at_ 4096 20000).1 :=
  (Ways_any at_ 4096 20000 hR hp hs (by omega) hT.1).mono fun e w' ⟨g, v, he, hv⟩ => by
    have h0 := WaysV.of_at hv
    obtain ⟨va, vc, rfl, _⟩ := h0.len
    exact ⟨va, vc, he, g, h0⟩
def frm (M : Matched) : Int := match M.1 with | some (a, _, _) => (a : Int) | none => 0
def til (M : Matched) : Int := match M.1 with | some (_, b, _) => (b : Int) | none => 0
def giv (M : Matched) : List Gift := match M.1 with | some (_, _, g) => g | none => []
theorem match_told (anch : Bool) (f : Int) (hR : RulesAt w (.slice ra R.length rc) R) (hp : PatV w kv p) (hs : s.size ≤ maxLen) (hf : -9223372036854775808 ≤ f ∧ f ≤ 9223372036854775807) (hT : Tabs w) :
    Calls Tryd.prog 19 #[.slice ra R.length rc, .agg #[.int .i64 p.kind, .string p.text, .int .i64 p.n, .string p.name, kv], .string s, .bool anch, .int .i64 f] w fun e w' => ∃ ga gc sa sc, e = .returned (.tuple #[.agg #[.bool (matchOf R p s anch f).1.isSome, .int .i64 (frm (matchOf R p s anch f)), .int .i64 (til (matchOf R p s anch f)), .slice ga (giv (matchOf R p s anch f)).length gc, .slice sa (matchOf R p s anch f).2.1.length sc, .int .i64 (matchOf R p s anch f).2.2.1], .int .i64 (matchOf R p s anch f).2.2.2]) ∧ Grew w w' ∧ GiftsV w' (.slice ga (giv (matchOf R p s anch f)).length gc) (giv (matchOf R p s anch f)) ∧ GiftsV w' (.slice sa (matchOf R p s anch f).2.1.length sc) (matchOf R p s anch f).2.1 :=
  (Match_any anch f hR hp hs hf hT.1).mono fun e w' ⟨hg, gv, sv, he, h1, h2⟩ => by
    have h1' : w'.ownsRow w.heap.size 79 2 gv (giv (matchOf R p s anch f)).length (saidCells (giv (matchOf R p s anch f))) := h1
    obtain ⟨ga, gc, rfl⟩ := ownsRow_form0 h1'
    obtain ⟨sa, sc, rfl⟩ := ownsRow_form0 h2
    exact ⟨ga, gc, sa, sc, he, hg, .of_own h1', .of_own h2⟩
theorem simplify_ok (hp : PatV w kv p) (hT : Tabs w) (h0 : patErr p = 0) :
    Calls Tryd.prog 10 #[.agg #[.int .i64 p.kind, .string p.text, .int .i64 p.n, .string p.name, kv]] w fun e w' => ∃ a n c, e = .returned (.tuple #[.agg #[.int .i64 (simple p).kind, .string (simple p).text, .int .i64 (simple p).n, .string (simple p).name, .slice a n c], .int .i64 0]) ∧ Grew w w' ∧ PatV w' (.slice a n c) (simple p) :=
  (Simplify_any p kv w hp hT.2).mono fun e w' h => by
    rcases h with ⟨_, a, n, c, h1, h2, h3⟩ | ⟨h, _⟩
    · exact ⟨a, n, c, h1, h3, h2.patV⟩
    · exact absurd h0 h
theorem simplify_bad (hp : PatV w kv p) (hT : Tabs w) (h0 : patErr p ≠ 0) :
    Calls Tryd.prog 10 #[.agg #[.int .i64 p.kind, .string p.text, .int .i64 p.n, .string p.name, kv]] w fun e w' => e = .returned (.tuple #[.agg #[.int .i64 0, .string ⟨#[]⟩, .int .i64 0, .string ⟨#[]⟩, .slice none 0 0], .int .i64 (patErr p)]) ∧ Grew w w' :=
  (Simplify_any p kv w hp hT.2).mono fun e w' h => by
    rcases h with ⟨h, _⟩ | ⟨_, h1, h2⟩
    · exact absurd h h0
    · exact ⟨h1, h2⟩
theorem six_cells {w : World} {b : Nat} {v0 v1 v2 v3 v4 v5 : Value} {t : TypeId} (h : w.heap[b]? = some (.cells #[v0, v1, v2, v3, v4, v5] t (0, 0))) :
    w.cell? ⟨b, 0, none⟩ = some v0 ∧ w.cell? ⟨b, 1, none⟩ = some v1 ∧ w.cell? ⟨b, 2, none⟩ = some v2 ∧ w.cell? ⟨b, 3, none⟩ = some v3 ∧ w.cell? ⟨b, 4, none⟩ = some v4 ∧ w.cell? ⟨b, 5, none⟩ = some v5 := by
  simp [World.cell?, h]
/-- What Length says of all ways. -/
theorem length_fits {at_ : Int} (h : (waysOf R p s at_ 4096 20000).2.2 = 0) : ((lengthOf p).2.2 = 6 ∧ (waysOf R p s at_ 4096 20000).1.length = 0) ∨ ((lengthOf p).2.2 = 0 ∧ 0 ≤ at_ ∧ at_ ≤ s.size ∧ ∀ x ∈ (waysOf R p s at_ 4096 20000).1, at_ + (lengthOf p).1 ≤ x.1 ∧ (0 ≤ (lengthOf p).2.1 → (x.1 : Int) ≤ at_ + (lengthOf p).2.1) ∧ x.1 ≤ s.size) := by
  obtain ⟨h1, h2, h3, h4⟩ := ways_allw (P := fun e => Fits (measureP p) at_.toNat e ∧ e ≤ s.size) h (fun he n hn hns => by
    subst hn
    exact allw_and (den_fits _ p he n [] hns) (den_bounds _ p n [] hns))
  unfold lengthOf
  rw [if_pos h3]
  by_cases hn : (measureP p).never = true
  · rw [if_pos hn]
    refine Or.inl ⟨rfl, ?_⟩
    cases hl : (waysOf R p s at_ 4096 20000).1 with
    | nil => rfl
    | cons x l =>
      have := (h4 x (by rw [hl]; simp)).1.1
      rw [hn] at this; cases this
  · rw [if_neg hn]
    refine Or.inr ⟨rfl, h1, h2, fun x hx => ?_⟩
    obtain ⟨⟨k1, k2, k3⟩, k4⟩ := h4 x hx
    exact ⟨by show at_ + (measureP p).least ≤ x.1; omega, fun hm => by
      have hm : 0 ≤ (measureP p).most := hm
      show (x.1 : Int) ≤ at_ + (measureP p).most
      have := k3 hm; omega, k4⟩
end
end Go.Proofs.YtmcfoefhenmjeaaDoor
