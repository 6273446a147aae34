/- Split and Join of anything: the law's walk. Conditions: the texts' reach. -/
import Derived.Test.YtgkchdjogfdjaaaDoorTxJoin
namespace Go.Proofs.YtgkchdjogfdjaaaDoor
open Go.RowKit
set_option linter.unusedVariables false
/-- What Split answers. -/
def splitS (s t : ByteArray) : List ByteArray × Nat := if 65536 < s.size then ([], 4) else if t.size ≠ 1 then ([], 8) else (piecesB (signOf t) s, 0)
theorem strsArg_nil (w : World) : StrsArg w (.slice none 0 0) [] := Or.inl ⟨_, _, rfl, rfl⟩
def SplitSaid (s t : ByteArray) (w : World) (e : Ending) (w' : World) : Prop := ∃ v, e = .returned (.tuple #[v, .int .i64 ((splitS s t).2 : Nat)]) ∧ StrsArg w' v (splitS s t).1 ∧ Grew w w'
theorem Split_all (s t : ByteArray) (m : Int) (w : World) (hs : s.size ≤ maxLen) (ht : t.size ≤ maxLen) (hm : w.cell? ⟨0, 0, none⟩ = some (.int .i64 m)) : Calls Tryd.prog 6 #[.string s, .string t] w (SplitSaid s t w) := by
  unfold SplitSaid splitS
  by_cases h1 : 65536 < s.size
  · rw [if_pos h1]
    exact (Split_much s t w hs h1).mono fun e w' k => ⟨_, k.1, strsArg_nil _, k.2⟩
  · rw [if_neg h1]
    by_cases h2 : t.size ≠ 1
    · rw [if_pos h2]
      exact (Split_fit s t w (by omega) ht h2).mono fun e w' k => ⟨_, k.1, strsArg_nil _, k.2⟩
    · rw [if_neg h2]
      exact Split_ok s t m w (by omega) (by omega) hm
theorem RSplit_all (s t : ByteArray) (w : World) (hs : s.size ≤ maxLen) (ht : t.size ≤ maxLen) : Calls Tryd.prog 7 #[.string s, .string t] w (SplitSaid s t w) := by
  unfold SplitSaid splitS
  by_cases h1 : 65536 < s.size
  · rw [if_pos h1]
    exact (RSplit_much s t w hs h1).mono fun e w' k => ⟨_, k.1, strsArg_nil _, k.2⟩
  · rw [if_neg h1]
    by_cases h2 : t.size ≠ 1
    · rw [if_pos h2]
      exact (RSplit_fit s t w (by omega) ht h2).mono fun e w' k => ⟨_, k.1, strsArg_nil _, k.2⟩
    · rw [if_neg h2]
      exact RSplit_ok s t w (by omega) (by omega)
theorem same_text (a : ByteArray) : (a.toList == a.toList) = true := by simp
set_option maxHeartbeats 1000000 in
theorem TextsLists_walk (t : ByteArray) (v : Value) (l : List ByteArray) (g : ByteArray) (m : Int) (w : World) (ht : t.size ≤ maxLen) (hl : StrsArg w v l) (hz : ∀ s ∈ l, s.size ≤ 140737488355328) (hg : g.size ≤ maxLen) (hm : w.cell? ⟨0, 0, none⟩ = some (.int .i64 m)) :
    Calls Tryd.prog 3 #[.string t, v, .string g] w fun e w' => e = .returned (.bool true) ∧ Grew w w' := by
  have H1 := hidd (Split_all t g m w ht hg hm)
  have H2 := hidd (fun w => RSplit_all t g w ht hg)
  have H3 := hidd (fun w (h : StrsArg w v l) => Join_all l g v w h hg hz)
  have H4 := hidd (fun w (h : StrsArg w v l) => RJoin_all l g v w h hg hz)
  unfold joinV at H3 H4
  unfold SplitSaid at H1 H2
  obtain ⟨⟨sp, x⟩, hx⟩ : ∃ c, splitS t g = c := ⟨_, rfl⟩
  obtain ⟨⟨J, y⟩, hy⟩ : ∃ c, joinS l g = c := ⟨_, rfl⟩
  rw [hx] at H1
  simp only [hx] at H2
  simp only [hy] at H3 H4
  have HL := hidd hl
  clear ht hg hm hz hx hy hl
  have f1 := same_text J
  go_enter Tryd.func3, Tryd.ntmps3
  go_wp2_with fail
  refine H1.out.mono ?_; rintro e w1 ⟨v1, rfl, h1, g1⟩
  have K1 := hidd h1
  have G1 := hidd g1
  clear h1 g1
  go_wp2_with fail
  refine (H2.out _).mono ?_; rintro e w2 ⟨v2, rfl, h2, g2⟩
  have K2 := hidd h2
  have K1b := hidd (K1.out.kept g2)
  have G2 := hidd (G1.out.trans g2)
  clear h2 g2
  go_wp2_with fail
  refine (Same_eq v1 v2 sp _ K1b.out K2.out).mono ?_; rintro e w3 ⟨rfl, g3⟩
  have G3 := hidd (G2.out.trans g3)
  clear g3
  go_wp2_with fail
  refine (H3.out _ (HL.out.kept G3.out)).mono ?_; rintro e w4 ⟨rfl, g4⟩
  have G4 := hidd (G3.out.trans g4)
  clear g4
  go_wp2_with fail
  refine (H4.out _ (HL.out.kept G4.out)).mono ?_; rintro e w5 ⟨rfl, g5⟩
  have G5 := hidd (G4.out.trans g5)
  clear g5
  go_wp2_with fail
  go_ret
  exact ⟨rfl, G5.out⟩
end Go.Proofs.YtgkchdjogfdjaaaDoor
