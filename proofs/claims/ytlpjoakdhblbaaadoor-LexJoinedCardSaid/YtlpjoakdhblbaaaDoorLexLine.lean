/- Line and the document's Line say the same, at every text. -/
import Derived.Test.YtlpjoakdhblbaaaDoorLxRef
import Derived.Test.YtlpjoakdhblbaaaDoorLxSame
namespace Go.Proofs.YtlpjoakdhblbaaaDoor
open Go.RowKit
set_option linter.unusedVariables false
/-- What Line says of a text: its fault's kind and place, its tokens. -/
def codeOf (s : ByteArray) : Nat × Nat × List Tok :=
  if s.size ≤ 2000 then match line 0 s.data.toList with
    | .bad a => (2, a, [])
    | .fine l => (0, 0, l)
  else (4, 0, [])
def Said (w : World) (c : Nat × Nat × List Tok) (e : Ending) (w' : World) : Prop := ∃ v, e = .returned (.tuple #[v, .agg #[.int .i64 c.1, .int .i64 c.2.1]]) ∧ ToksV w' v c.2.2 ∧ Grew w w'
theorem said_of {w w' : World} {s : ByteArray} {e : Ending} (hs : s.size ≤ 2000) (h : LineEnd w (line 0 s.data.toList) e w') : Said w (codeOf s) e w' := by
  unfold codeOf; rw [if_pos hs]
  unfold LineEnd at h
  cases hO : line 0 s.data.toList with
  | bad a =>
    rw [hO] at h
    obtain ⟨h1, rfl⟩ := h
    exact ⟨_, rfl, toksV_nil _, h1⟩
  | fine l =>
    rw [hO] at h
    obtain ⟨h1, v, rfl, h2⟩ := h
    exact ⟨v, rfl, .of_own h2, h1⟩
theorem Line_all (s : ByteArray) (m : Int) (w : World) (hs : s.size ≤ maxLen) (hm : w.cell? ⟨0, 0, none⟩ = some (.int .i64 m)) : Calls Tryd.prog 6 #[.string s] w (Said w (codeOf s)) := by
  by_cases h : s.size ≤ 2000
  · exact (Line_any s m w h hm).mono fun e w' k => said_of h k
  · refine (Line_much s w hs (by omega)).mono fun e w' k => ?_
    unfold codeOf; rw [if_neg h]
    exact ⟨_, k.1, toksV_nil _, k.2⟩
theorem RLine_all (s : ByteArray) (w : World) (hs : s.size ≤ maxLen) : Calls Tryd.prog 7 #[.string s] w (Said w (codeOf s)) := by
  by_cases h : s.size ≤ 2000
  · exact (RLine_any s w h).mono fun e w' k => said_of h k
  · refine (RLine_much s w hs (by omega)).mono fun e w' k => ?_
    unfold codeOf; rw [if_neg h]
    exact ⟨_, k.1, toksV_nil _, k.2⟩
theorem fault_held : Tryd.prog.stoodInHeld 25 = false := by kernel_rfl
theorem fault_guard : Tryd.prog.eqGuardType Tryd.prog.depth 25 = false := by kernel_rfl
theorem wpList_load_fault {ops : Array Oper} {rest : List Oper} {o : Oper} {a : Act} {w : World} {Q : Exit → Act → World → Prop} (hgd : o.guard = none) {x : Operand} (ho : o.op = .load 25 x) {b : Nat} {u y : Value} (hx : a.eval x = .pointer (some ⟨b, 0, none⟩)) (hA : ArrAt w b 0 2 (twoF u y))
    (h : wpList Tryd.prog ops Q rest (a.put o.dst (.agg #[u, y])) w) : wpList Tryd.prog ops Q (o :: rest) a w :=
  wpList_load_arr hgd ho hx hA Tryd.underlying25 rfl info_fault h
set_option maxHeartbeats 2000000 in
theorem LexLine_walk (s : ByteArray) (m : Int) (w : World) (hs : s.size ≤ maxLen) (hm : w.cell? ⟨0, 0, none⟩ = some (.int .i64 m)) : Calls Tryd.prog 3 #[.string s] w fun e w' => e = .returned (.bool true) ∧ Grew w w' := by
  have H1 := hidd (Line_all s m w hs hm)
  have H2 := hidd (fun w => RLine_all s w hs)
  obtain ⟨⟨x, y, l⟩, hc⟩ : ∃ c, codeOf s = c := ⟨_, rfl⟩
  rw [hc] at H1
  simp only [hc] at H2
  clear hm hc hs
  have hg := fault_guard
  have hh := fault_held
  go_enter Tryd.func3, Tryd.ntmps3
  go_wp2_with (first
    | (go_at_call 6; refine H1.out.mono ?_; rintro e w1 ⟨v1, rfl, hT1, hG1⟩; dsimp only at hT1; obtain ⟨p1, c1, rfl, hc1, hn1⟩ := hT1.len; have HT1 := hidd hT1; have HG1 := hidd hG1; clear hT1 hG1)
    | (go_at_call 7; refine (H2.out _).mono ?_; rintro e w2 ⟨v2, rfl, hT2, hG2⟩; dsimp only at hT2; obtain ⟨p2, c2, rfl, hc2, hn2⟩ := hT2.len; have HA := hidd ((two_at w1 (.int .i64 x) (.int .i64 y) 25).kept hG2); have HT2 := hidd hT2; have HT3 := hidd ((HT1.out.kept ((Grew.refl w1).alloc _)).kept hG2); have HG2 := hidd ((HG1.out.alloc _).trans hG2); clear hT2 hG2)
    | (refine wpList_load_fault rfl rfl rfl (HA.out.alloc _) ?_)
    | (go_at_call 8; refine (Same_any (HT3.out.kept ((Grew.refl w2).alloc _)) (HT2.out.kept ((Grew.refl w2).alloc _))).mono ?_; rintro e w3 ⟨rfl, g3⟩))
  go_ret
  exact ⟨rfl, (HG2.out.alloc _).trans g3⟩
end Go.Proofs.YtlpjoakdhblbaaaDoor
