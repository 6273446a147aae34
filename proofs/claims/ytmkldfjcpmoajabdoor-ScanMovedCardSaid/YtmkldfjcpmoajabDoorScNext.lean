/- The machine's method next: the next way. -/
import Derived.Test.YtmkldfjcpmoajabDoorScEnterB
import Derived.Test.YtmkldfjcpmoajabDoorScInv
import Derived.Test.YtmkldfjcpmoajabDoorScScope
import Derived.Deep.LoopGhost
namespace Go.Proofs.YtmkldfjcpmoajabDoor
open Go.RowKit
set_option linter.unusedVariables false
section
variable {R : List Rule} {X : Far} {w0 w : World} {bm tb nb no : Nat} {q kp : Option Addr} {rv : Value} {s : ByteArray} {fuel ways : Nat} {m : MS} {p : Pat} {t : Todo} {k : List Todo} {a : Nat}

theorem resume_any (h : MacRep X w0 bm rv s fuel m w) (hh : Head w0 w tb nb no q t k) (hI : Inv s.size fuel ways (some (t :: k, a)) m) (h0 : t.op ≠ 0) (hs : s.size ≤ 65536) (hw : ways ≤ 100000) : ResumeCalls X w0 bm rv s fuel m w tb t k a := by
  obtain ⟨b1, b2, b3⟩ := hI.small hw
  obtain ⟨hT, hP⟩ := hI.st
  have hst := hT.start t (by simp)
  have hg := hT.good t (by simp)
  have ho := hg.op
  have ha := hT.at_
  have cases : t.op = 1 ∨ t.op = 2 ∨ t.op = 3 ∨ t.op = 4 ∨ t.op = 5 ∨ t.op = 6 ∨ t.op = 7 ∨ t.op = 8 := by omega
  rcases cases with e | e | e | e | e | e | e | e
  · exact resume_more h hh e hs ha (by omega)
  · exact resume_next h hh e hs ha (by omega)
  · exact resume_pairs h hh e hs ha (by omega)
  · exact resume_again h hh e (hg.kids (Or.inl e))
  · exact resume_loop h hh e hs ha (by omega) (by omega)
  · exact resume_give h hh e hs ha hst
  · exact resume_say h hh e hs ha hst (by omega)
  · exact resume_fence h hh e

theorem enter_any (h : MacRep X w0 bm rv s fuel m w) (hp : PatAt w0 nb no p) (hk : TodoAt w0 w kp k) (he : errW p = 0) (hc : m.choices.length ≤ 500000000) (hR : RulesAt w0 rv R) (hR2 : R.length ≤ 64) :
    EnterCalls R X w0 bm rv s fuel m w nb no p kp k a (if inner p = true then 7 else 0) := by
  obtain ⟨hn, _⟩ := errW_node he
  obtain ⟨k1, k2⟩ := node_kids hn
  cases hin : inner p with
  | false => exact enter_other h hp hin
  | true =>
    rw [if_pos rfl]
    have z7 : ∀ {r : Option (List Todo) × MS}, r.1 ≠ none → ∀ {z z' : Int} {e w'}, Enters X w0 bm rv s fuel w z r e w' → Enters X w0 bm rv s fuel w z' r e w' := by
      intro r hr z z' e w' hE
      unfold Enters at hE ⊢
      cases h1 : r.1 with
      | none => exact absurd h1 hr
      | some k => rw [h1] at hE; exact hE
    have cases : p.kind = 7 ∨ p.kind = 13 ∨ p.kind = 14 ∨ p.kind = 18 ∨ p.kind = 19 ∨ p.kind = 20 ∨ p.kind = 21 ∨ p.kind = 22 ∨ p.kind = 24 := by
      simp only [inner, Bool.or_eq_true, decide_eq_true_eq] at hin
      omega
    rcases cases with e | e | e | e | e | e | e | e | e
    · exact (enter_many (a := a) (R := R) h hp hk (by omega)).mono fun _ _ => z7 (by unfold enter; rw [if_pos e]; simp)
    · exact (enter_many (a := a) (R := R) h hp hk (by omega)).mono fun _ _ => z7 (by unfold enter; rw [if_neg (by omega), if_pos e]; simp)
    · exact (enter_many (a := a) (R := R) h hp hk (by omega)).mono fun _ _ => z7 (by unfold enter; rw [if_neg (by omega), if_neg (by omega), if_pos e]; simp)
    · exact (enter_cat (a := a) (R := R) h hp hk e (by have := k1 (Or.inl e); omega)).mono fun _ _ => z7 (by unfold enter; rw [if_neg (by omega), if_neg (by omega), if_neg (by omega), if_pos e]; simp)
    · exact (enter_alt (a := a) (R := R) h hp hk e (by have := k1 (Or.inr e); omega) (k1 (Or.inr e)).2 (by omega)).mono fun _ _ => z7 (by unfold enter; rw [if_neg (by omega), if_neg (by omega), if_neg (by omega), if_neg (by omega), if_pos e]; simp)
    · exact (enter_arbno (a := a) (R := R) h hp hk e (by omega)).mono fun _ _ => z7 (by unfold enter; rw [if_neg (by omega), if_neg (by omega), if_neg (by omega), if_neg (by omega), if_neg (by omega), if_pos e]; simp)
    · exact (enter_give (a := a) (R := R) h hp hk (by omega) (by have := k2 (by omega); omega)).mono fun _ _ => z7 (by unfold enter; rw [if_neg (by omega), if_neg (by omega), if_neg (by omega), if_neg (by omega), if_neg (by omega), if_neg (by omega), if_pos e]; simp)
    · exact (enter_give (a := a) (R := R) h hp hk (by omega) (by have := k2 (by omega); omega)).mono fun _ _ => z7 (by unfold enter; rw [if_neg (by omega), if_neg (by omega), if_neg (by omega), if_neg (by omega), if_neg (by omega), if_neg (by omega), if_neg (by omega), if_pos e]; simp)
    · exact enter_call h hp hk e hR hR2

/-- The last choice is taken. -/
theorem pop_end {x : Ch} {cs : List Ch} {sv : Value} {gp kq gq : Option Addr} {g cap : Nat} {us : List Value} (hm : m.choices = x :: cs)
    (h : MacSt X w0 bm rv s fuel m w sv (.slice (some ⟨g, 0, none⟩) (cs.length + 1) cap) gp (us ++ [.pointer kq, .int .i64 x.at_, .pointer gq])) (h1 : ChsAt w0 w cs us) (h2 : GiftsAt w gq x.given) :
    MacRep X w0 bm rv s fuel { m with choices := cs, given := x.given } ((w.setCell ⟨bm, 5, none⟩ (.slice (some ⟨g, 0, none⟩) cs.length cap)).setCell ⟨bm, 6, none⟩ (.pointer gq)) ∧
    Keep w ((w.setCell ⟨bm, 5, none⟩ (.slice (some ⟨g, 0, none⟩) cs.length cap)).setCell ⟨bm, 6, none⟩ (.pointer gq)) := by
  have hown : w.ownsRow w0.heap.size 76 3 (.slice (some ⟨g, 0, none⟩) cs.length cap) cs.length us := by
    have h3 := h.own
    rw [hm] at h3
    have hl : us.length = cs.length * 3 := by
      have := h3.1
      rw [List.length_append] at this
      simp at this; omega
    refine ⟨hl, .inr ?_⟩
    rcases h3.2 with ⟨e, _⟩ | ⟨g', cap', cur, e, a1, a2, a3, a4, a5, a6⟩
    · cases e
    · simp only [Value.slice.injEq, Option.some.injEq, Addr.mk.injEq] at e
      obtain ⟨⟨rfl, _⟩, _, rfl⟩ := e
      simp only [List.length_cons] at a3 a6
      refine ⟨g, cap, cur, rfl, a1, a2, by omega, a4, a5, ?_⟩
      have e5 := congrArg (List.take (cs.length * 3)) a6
      rw [List.take_take, Nat.min_eq_left (by omega), ← hl, List.take_left] at e5
      rw [← hl]; exact e5
  obtain ⟨h4, k4⟩ := choices_set (m' := { m with choices := cs }) h ⟨rfl, rfl, rfl, Nat.le_refl _, fun _ _ _ => rfl⟩ hown h1 rfl rfl rfl rfl
  obtain ⟨h5, k5⟩ := given_set (m' := { m with choices := cs, given := x.given }) (gp' := gq) h4 (h2.kept k4) rfl rfl rfl rfl
  exact ⟨⟨_, _, _, _, h5⟩, k4.trans k5⟩
end
end Go.Proofs.YtmkldfjcpmoajabDoor
