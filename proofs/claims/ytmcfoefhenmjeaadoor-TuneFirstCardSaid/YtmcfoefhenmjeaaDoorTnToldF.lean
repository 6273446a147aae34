/- The contracts that TuneFirst uses, in the form in which it uses them. -/
import Derived.Test.YtmcfoefhenmjeaaDoorTnAliveF
import Derived.Test.YtmcfoefhenmjeaaDoorTnWaysF
import Derived.Test.YtmcfoefhenmjeaaDoorScWays
namespace Go.Proofs.YtmcfoefhenmjeaaDoor
open Go.RowKit
set_option linter.unusedVariables false
def Tabs (w : World) : Prop := TabP w ∧ TabZ w
theorem form_of {w : World} {v : Value} {l : List Pat} (h : KidsAt w v l) : ∃ b n c, v = .slice b n c := by
  rcases h with ⟨a, c, rfl, _⟩ | ⟨b, o, c, rfl, _⟩ <;> exact ⟨_, _, _, rfl⟩
section
variable {R : List Rule} {w : World} {p : Pat} {s : ByteArray} {kv : Value} {ra : Option Addr} {rc : Nat}
theorem ways_told (at_ : Int) (hR : RulesAt w (.slice ra R.length rc) R) (hp : PatV w kv p) (hs : s.size ≤ maxLen) (hT : Tabs w) :
    Calls Tryd.prog 21 #[.slice ra R.length rc, .agg #[.int .i64 p.kind, .string p.text, .int .i64 p.n, .string p.name, kv], .string s, .int .i64 at_, .int .i64 4096, .int .i64 20000] w fun e w' => ∃ va vc, e = .returned (.tuple #[.slice va (waysOf R p s at_ 4096 20000).1.length vc, .bool (waysOf R p s at_ 4096 20000).2.1, .int .i64 (waysOf R p s at_ 4096 20000).2.2]) ∧ Grew w w' ∧ WaysV w' (.slice va (waysOf R p s at_ 4096 20000).1.length vc) (waysOf R p s at_ 4096 20000).1 :=
  (Ways_any at_ 4096 20000 hR hp hs (by omega) hT.1).mono fun e w' ⟨g, v, he, hv⟩ => by
    have h0 := WaysV.of_at hv
    obtain ⟨va, vc, rfl, _⟩ := h0.len
    exact ⟨va, vc, he, g, h0⟩
end
end Go.Proofs.YtmcfoefhenmjeaaDoor
