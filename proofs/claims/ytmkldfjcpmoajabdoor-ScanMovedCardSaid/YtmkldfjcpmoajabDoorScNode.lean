/- pats.wrong: at every node. -/
import Derived.Test.YtmkldfjcpmoajabDoorScNodeA
import Derived.Test.YtmkldfjcpmoajabDoorScNodeB
import Derived.Test.YtmkldfjcpmoajabDoorScNodeC
import Derived.Test.YtmkldfjcpmoajabDoorScNodeD
namespace Go.Proofs.YtmkldfjcpmoajabDoor
open Go.RowKit
set_option linter.unusedVariables false

/-- At every node. -/
theorem wrong_node {w : World} {b o : Nat} {p : Pat} {v : Value} (h1 : NodeAt w b o p v) (h2 : KidsAt w v p.kids) : Told w b o (nodeErr p) := by
  have h := h1.seen h2
  unfold nodeErr
  have hm : ∀ lo hi, (p.kids.length < lo → Told w b o 5) → (hi < p.kids.length → Told w b o 5) → (lo ≤ p.kids.length → p.kids.length ≤ hi → Told w b o 0) → Told w b o (manyErr p.kids.length lo hi) := by
    intro lo hi x y z
    unfold manyErr
    split
    · rename_i hh
      rcases hh with hh | hh
      · exact x hh
      · exact y hh
    · exact z (by omega) (by omega)
  split
  · rename_i hk; exact wrong_none h hk
  rename_i hk0
  split
  · rename_i hk
    split
    · rename_i hs; exact wrong_text h (Or.inl hk) hs
    · rename_i hs; exact hm 0 0 (fun x => by omega) (wrong_lit_more h hk (by omega)) (wrong_lit_ok h hk (by omega))
  rename_i hk1
  split
  · rename_i hk
    split
    · rename_i hs; exact wrong_text h (Or.inr hk) hs
    · split
      · rename_i hs; exact wrong_empty h hk hs
      · exact hm 0 0 (fun x => by omega) (wrong_set_more h hk (by omega) (by omega)) (wrong_set_ok h hk (by omega) (by omega))
  rename_i hk2
  split
  · rename_i hk
    split
    · rename_i hs
      rcases hs with hs | hs
      · exact wrong_low h hk hs
      · exact wrong_high h hk hs
    · exact hm 0 0 (fun x => by omega) (wrong_num_more h hk (by omega) (by omega)) (wrong_num_ok h hk (by omega) (by omega))
  rename_i hk3
  split
  · rename_i hk; exact hm 2 4096 (wrong_cat_few h hk) (wrong_cat_more h hk) (wrong_cat_ok h hk)
  rename_i hk4
  split
  · rename_i hk; exact hm 1 1 (wrong_arbno_few h hk) (wrong_arbno_more h hk) (wrong_arbno_ok h hk)
  rename_i hk5
  split
  · rename_i hk
    split
    · rename_i hs; exact wrong_name h (by omega) hs
    · rename_i hs; exact hm 1 1 (wrong_give_few h hk (by simpa using hs)) (wrong_give_more h hk (by simpa using hs)) (wrong_give_ok h hk (by simpa using hs))
  rename_i hk6
  split
  · rename_i hk
    split
    · rename_i hs; exact wrong_name h (by omega) hs
    · rename_i hs; exact hm 0 0 (fun x => by omega) (wrong_call_more h hk (by simpa using hs)) (wrong_call_ok h hk (by simpa using hs))
  rename_i hk7
  exact hm 0 0 (fun x => by omega) (wrong_plain_more h (by omega)) (wrong_plain_ok h (by omega))
end Go.Proofs.YtmkldfjcpmoajabDoor
