/- The machine's method resume: what was begun goes on. -/
import Derived.Test.YtkkdpafkafjfgaaDoorWwScEnd
import Derived.StillTailTactics
import Derived.RegionTactic
import Derived.ChangeAlike
namespace Go.Proofs.YtkkdpafkafjfgaaDoor
open Go.RowKit
set_option linter.unusedVariables false
theorem PatAt.kid {w : World} {b o : Nat} {p : Pat} (h : PatAt w b o p) {i : Nat} (hi : i < p.kids.length) : ∃ b' o' c, NodeAt w b o p (.slice (some ⟨b', o', none⟩) p.kids.length c) ∧ p.kids.length ≤ c ∧ c ≤ maxLen ∧ ∀ j, j < p.kids.length → PatAt w b' (o' + j * 5) (p.kid j) := by
  obtain ⟨v, h1, h2⟩ := h.open
  rcases h2 with ⟨a, c, _, e⟩ | ⟨b', o', c, rfl, h3, h4, h5, h6⟩
  · rw [e] at hi; simp at hi
  · exact ⟨b', o', c, h1, h4, h5, h6⟩
def Resumes (X : Far) (w0 : World) (bm : Nat) (rv : Value) (s : ByteArray) (fuel : Nat) (w : World) (r : Option (List Todo × Nat) × MS) (e : Ending) (w' : World) : Prop :=
  (match r.1 with
   | none => e = .returned (.tuple #[.pointer none, .int .i64 0, .bool false])
   | some (k, a) => ∃ kp, e = .returned (.tuple #[.pointer kp, .int .i64 a, .bool true]) ∧ TodoAt w0 w' kp k) ∧ MacRep X w0 bm rv s fuel r.2 w' ∧ Keep w w'
abbrev ResumeCalls (X : Far) (w0 : World) (bm : Nat) (rv : Value) (s : ByteArray) (fuel : Nat) (m : MS) (w : World) (tb : Nat) (t : Todo) (k : List Todo) (a : Nat) : Prop :=
  Calls Tryd.prog 92 #[.pointer (some ⟨bm, 0, none⟩), .pointer (some ⟨tb, 0, none⟩), .int .i64 a] w fun e w' => Resumes X w0 bm rv s fuel w (resume s t k a m) e w'
structure Head (w0 w : World) (tb nb no : Nat) (q : Option Addr) (t : Todo) (k : List Todo) : Prop where
  b : w.heap[tb]? = some (.cells #[.int .i64 t.op, .pointer (some ⟨nb, no, none⟩), .int .i64 t.start, .pointer q] 188 (0, 0))
  p : PatAt w0 nb no t.node
  k : TodoAt w0 w q k
theorem TodoAt.head {w0 w : World} {p : Option Addr} {t : Todo} {k : List Todo} (h : TodoAt w0 w p (t :: k)) : ∃ tb nb no q, p = some ⟨tb, 0, none⟩ ∧ Head w0 w tb nb no q t k := by
  obtain ⟨b, nb, no, q, h1, h2, h3, h4⟩ := h
  exact ⟨b, nb, no, q, h1, h2, h3, h4⟩
section
variable {X : Far} {w0 w : World} {bm tb nb no : Nat} {q : Option Addr} {rv : Value} {s : ByteArray} {fuel : Nat} {m : MS} {t : Todo} {k : List Todo} {a : Nat}
theorem Head.t0 (h : Head w0 w tb nb no q t k) : w.cell? ⟨tb, 0, none⟩ = some (.int .i64 t.op) := by simp [World.cell?, h.b]
theorem Head.t1 (h : Head w0 w tb nb no q t k) : w.cell? ⟨tb, 1, none⟩ = some (.pointer (some ⟨nb, no, none⟩)) := by simp [World.cell?, h.b]
theorem Head.t2 (h : Head w0 w tb nb no q t k) : w.cell? ⟨tb, 2, none⟩ = some (.int .i64 t.start) := by simp [World.cell?, h.b]
theorem Head.t3 (h : Head w0 w tb nb no q t k) : w.cell? ⟨tb, 3, none⟩ = some (.pointer q) := by simp [World.cell?, h.b]
theorem Head.kept {w' : World} (g : Keep w w') (h : Head w0 w tb nb no q t k) : Head w0 w' tb nb no q t k := ⟨g.block _ _ _ rfl h.b, h.p, h.k.kept g⟩
theorem MacRep.kept {w' : World} (g : Grew w w') (h : MacRep X w0 bm rv s fuel m w) : MacRep X w0 bm rv s fuel m w' := by
  obtain ⟨sv, cv, gp, vs, h⟩ := h; exact ⟨sv, cv, gp, vs, h.kept g⟩
theorem MacRep.grew (h : MacRep X w0 bm rv s fuel m w) : Grew w0 w := by obtain ⟨sv, cv, gp, vs, h⟩ := h; exact h.grew
theorem quiet_add_left {P : Program} {f : FuncId} {args : Array Value} {w : World} {a n : Nat} {v : Value}
    (h : Calls P f args (w.drewN (a + n)) fun e w' => e = .returned v ∧ w.drewN (a + n) = w') :
    Calls P f args (w.drewN (a + n)) fun e w'' => e = .returned v ∧ ∃ m, w'' = w.drewN (a + m) :=
  h.mono fun _ _ ⟨he, hm⟩ => ⟨he, n, hm.symm⟩
theorem later_int (h : MacRep X w0 bm rv s fuel m w) (op f : Nat) {op' a' f' : Int} (h1 : op' = op) (h2 : a' = a) (h3 : f' = f) {p : Pat} {kp : Option Addr} (hp : PatAt w0 nb no p) (hk : TodoAt w0 w kp k) (hn : m.choices.length ≤ 1000000000) :
    Calls Tryd.prog 115 #[.pointer (some ⟨bm, 0, none⟩), .int .i64 op', .pointer (some ⟨nb, no, none⟩), .int .i64 a', .int .i64 f', .pointer kp] w fun e w' =>
      e = .returned (.tuple #[]) ∧ MacRep X w0 bm rv s fuel (m.later (⟨op, p, f⟩ :: k) a) w' ∧ Keep w w' := by
  subst h1 h2 h3
  exact later_any h op a f nb no p kp k hp hk hn
set_option maxRecDepth 100000 in
set_option maxHeartbeats 1000000 in
theorem resume_more (h : MacRep X w0 bm rv s fuel m w) (hh : Head w0 w tb nb no q t k) (ho : t.op = 1) (hs : s.size ≤ 65536) (ha : a ≤ s.size) (hc : m.choices.length ≤ 1000000000) : ResumeCalls X w0 bm rv s fuel m w tb t k a := by
  have hlen : s.data.toList.length = s.size := (size_data s).symm
  have t0 := hh.t0
  have t1 := hh.t1
  have t2 := hh.t2
  have t3 := hh.t3
  have c1 : w.cell? ⟨bm, 1, none⟩ = some (.string s) := by obtain ⟨sv, cv, gp, vs, h⟩ := h; exact h.c1
  rw [ho] at t0
  have HM := hidd h
  have HH := hidd hh
  have eR : resume s t k a m = (some (k, a), if a < s.size then m.later (⟨1, t.node, 0⟩ :: k) (a + 1) else m) := by
    unfold resume; dsimp only; rw [if_neg (by omega), if_pos ho, hlen]
  clear h hh ho hlen
  by_cases hlt : a < s.size
  · have HL : Hid (∀ w1, Grew w w1 → Calls Tryd.prog 115 #[.pointer (some ⟨bm, 0, none⟩), .int .i64 1, .pointer (some ⟨nb, no, none⟩), .int .i64 ((a : Int) + 1), .int .i64 0, .pointer q] w1 fun e w' => e = .returned (.tuple #[]) ∧ MacRep X w0 bm rv s fuel (m.later (⟨1, t.node, 0⟩ :: k) (a + 1)) w' ∧ Keep w1 w') :=
      fun w1 g => later_int (HM.out.kept g) 1 0 (by rfl) (by omega) (by rfl) HH.out.p (HH.out.k.kept (Keep.of_grew g)) hc
    have E : Hid (resume s t k a m = (some (k, a), m.later (⟨1, t.node, 0⟩ :: k) (a + 1))) := by rw [Hid, eR, if_pos hlt]
    clear eR
    unfold ResumeCalls
    go_enter Tryd.func92, Tryd.ntmps92
    go_wp2_with fail
    go_quiet (fail)
    go_wp2_with fail
    refine (HL.out _ ((Grew.refl w).drewN _)).mono ?_; rintro e w2 ⟨rfl, h2, k2⟩
    have H2 := hidd h2
    have K2 := hidd ((Keep.of_grew ((Grew.refl w).drewN _)).trans k2)
    clear h2 k2
    go_wp2_with fail
    go_ret3
    rw [E.out]
    exact ⟨⟨q, by first | rfl | (congr 3; simp; omega) | simp, HH.out.k.kept K2.out⟩, H2.out, K2.out⟩
  · have E : Hid (resume s t k a m = (some (k, a), m)) := by rw [Hid, eR, if_neg hlt]
    have e1 : decide (a < s.size) = false := decide_eq_false hlt
    clear eR
    unfold ResumeCalls
    go_enter Tryd.func92, Tryd.ntmps92
    go_wp2_with fail
    go_quiet (fail)
    go_wp2_with fail
    go_ret3
    rw [E.out]
    exact ⟨⟨q, rfl, HH.out.k.kept (Keep.of_grew ((Grew.refl w).drewN _))⟩, HM.out.kept ((Grew.refl w).drewN _), Keep.of_grew ((Grew.refl w).drewN _)⟩
set_option maxRecDepth 100000 in
set_option maxHeartbeats 1000000 in
theorem resume_next (h : MacRep X w0 bm rv s fuel m w) (hh : Head w0 w tb nb no q t k) (ho : t.op = 2) (hs : s.size ≤ 65536) (ha : a ≤ s.size) (hc : m.choices.length ≤ 1000000000) : ResumeCalls X w0 bm rv s fuel m w tb t k a := by
  have hlen : s.data.toList.length = s.size := (size_data s).symm
  have t0 := hh.t0
  have t1 := hh.t1
  have t2 := hh.t2
  have t3 := hh.t3
  have c1 : w.cell? ⟨bm, 1, none⟩ = some (.string s) := by obtain ⟨sv, cv, gp, vs, h⟩ := h; exact h.c1
  rw [ho] at t0
  have HM := hidd h
  have HH := hidd hh
  have HC := hidd (fun w => index_any (s.extract a s.size) t.node.text true w (by rw [size_extract_to]; omega))
  rw [drop_extract] at HC
  have hS2 := (idx_break t.node.bytes (s.data.toList.drop a)).2
  rw [List.length_drop, hlen] at hS2
  have k1 : w.cell? ⟨nb, no + 1, none⟩ = some (.string t.node.text) := by
    obtain ⟨v, hv⟩ := hh.p.open
    exact (hv.1.kept h.grew).c1
  have eR : resume s t k a m = (match idx (s.data.toList.drop a) t.node.bytes true with | none => (none, m) | some n => (some (k, a + n), m.later (⟨2, t.node, 0⟩ :: k) (a + n + 1))) := by
    unfold resume; dsimp only; rw [if_neg (by omega), if_neg (by omega), if_pos ho]; rfl
  obtain ⟨o, hio⟩ : ∃ o, idx (s.data.toList.drop a) t.node.bytes true = o := ⟨_, rfl⟩
  rw [show idx (s.data.toList.drop a) t.node.text.data.toList true = o from hio] at HC
  rw [hio] at eR hS2
  clear h hh ho hlen hio
  cases o with
  | none =>
    have E : Hid (resume s t k a m = (none, m)) := eR
    dsimp only [optInt] at HC
    clear eR hS2
    unfold ResumeCalls
    go_enter Tryd.func92, Tryd.ntmps92
    go_wp2_with fail
    go_quiet (fail)
    go_wp2_with fail
    go_quiet ((go_at_call 116; exact quiet_add_left (HC.out _)))
    go_wp2_with fail
    go_ret3
    rw [E.out]
    exact ⟨rfl, HM.out.kept ((Grew.refl w).drewN _), Keep.of_grew ((Grew.refl w).drewN _)⟩
  | some n =>
    have hn := hS2 n rfl
    have HL : Hid (∀ w1, Grew w w1 → Calls Tryd.prog 115 #[.pointer (some ⟨bm, 0, none⟩), .int .i64 2, .pointer (some ⟨nb, no, none⟩), .int .i64 ((a : Int) + (n : Int) + 1), .int .i64 0, .pointer q] w1 fun e w' => e = .returned (.tuple #[]) ∧ MacRep X w0 bm rv s fuel (m.later (⟨2, t.node, 0⟩ :: k) (a + n + 1)) w' ∧ Keep w1 w') :=
      fun w1 g => later_int (HM.out.kept g) 2 0 (by rfl) (by omega) (by rfl) HH.out.p (HH.out.k.kept (Keep.of_grew g)) hc
    have E : Hid (resume s t k a m = (some (k, a + n), m.later (⟨2, t.node, 0⟩ :: k) (a + n + 1))) := eR
    dsimp only [optInt] at HC
    clear eR hS2
    have e0 : decide ((n : Int) < 0) = false := decide_eq_false (by omega)
    unfold ResumeCalls
    go_enter Tryd.func92, Tryd.ntmps92
    go_wp2_with fail
    go_quiet (fail)
    go_wp2_with fail
    go_quiet ((go_at_call 116; exact quiet_add_left (HC.out _)))
    go_wp2_with fail
    refine (HL.out _ ((Grew.refl w).drewN _)).mono ?_; rintro e w2 ⟨rfl, h2, k2⟩
    have H2 := hidd h2
    have K2 := hidd ((Keep.of_grew ((Grew.refl w).drewN _)).trans k2)
    clear h2 k2
    go_wp2_with fail
    go_ret3
    rw [E.out]
    exact ⟨⟨q, by first | rfl | (congr 3; simp; omega) | simp, HH.out.k.kept K2.out⟩, H2.out, K2.out⟩
set_option maxRecDepth 100000 in
set_option maxHeartbeats 1000000 in
theorem resume_pairs (h : MacRep X w0 bm rv s fuel m w) (hh : Head w0 w tb nb no q t k) (ho : t.op = 3) (hs : s.size ≤ 65536) (ha : a ≤ s.size) (hc : m.choices.length ≤ 1000000000) : ResumeCalls X w0 bm rv s fuel m w tb t k a := by
  have hlen : s.data.toList.length = s.size := (size_data s).symm
  have t0 := hh.t0
  have t1 := hh.t1
  have t2 := hh.t2
  have t3 := hh.t3
  have c1 : w.cell? ⟨bm, 1, none⟩ = some (.string s) := by obtain ⟨sv, cv, gp, vs, h⟩ := h; exact h.c1
  rw [ho] at t0
  have HM := hidd h
  have HH := hidd hh
  have HC := hidd (fun w => pairs_any (s.extract a s.size) w (by rw [size_extract_to]; omega))
  rw [drop_extract] at HC
  have eR : resume s t k a m = (match pairLen (s.data.toList.drop a) 0 with | none => (none, m) | some n => (some (k, a + n), m.later (⟨3, t.node, 0⟩ :: k) (a + n))) := by
    unfold resume; dsimp only; rw [if_neg (by omega), if_neg (by omega), if_neg (by omega), if_pos ho]; rfl
  have hS2 : ∀ n, pairLen (s.data.toList.drop a) 0 = some n → n ≤ s.size - a := fun n hn => by
    have := (pairLen_some (a := 0) hn).2.1
    rwa [List.length_drop, hlen] at this
  obtain ⟨o, hio⟩ : ∃ o, pairLen (s.data.toList.drop a) 0 = o := ⟨_, rfl⟩
  rw [hio] at HC eR hS2
  clear h hh ho hlen hio
  cases o with
  | none =>
    have E : Hid (resume s t k a m = (none, m)) := eR
    dsimp only [optInt] at HC
    clear eR hS2
    unfold ResumeCalls
    go_enter Tryd.func92, Tryd.ntmps92
    go_wp2_with fail
    go_quiet (fail)
    go_wp2_with fail
    refine (HC.out _).mono ?_; rintro e w2 ⟨rfl, rfl⟩
    go_wp2_with fail
    go_ret3
    rw [E.out]
    exact ⟨rfl, HM.out.kept ((Grew.refl w).drewN _), Keep.of_grew ((Grew.refl w).drewN _)⟩
  | some n =>
    have hn := hS2 n rfl
    have HL : Hid (∀ w1, Grew w w1 → Calls Tryd.prog 115 #[.pointer (some ⟨bm, 0, none⟩), .int .i64 3, .pointer (some ⟨nb, no, none⟩), .int .i64 ((a : Int) + (n : Int)), .int .i64 0, .pointer q] w1 fun e w' => e = .returned (.tuple #[]) ∧ MacRep X w0 bm rv s fuel (m.later (⟨3, t.node, 0⟩ :: k) (a + n)) w' ∧ Keep w1 w') :=
      fun w1 g => later_int (HM.out.kept g) 3 0 (by rfl) (by omega) (by rfl) HH.out.p (HH.out.k.kept (Keep.of_grew g)) hc
    have E : Hid (resume s t k a m = (some (k, a + n), m.later (⟨3, t.node, 0⟩ :: k) (a + n))) := eR
    dsimp only [optInt] at HC
    clear eR hS2
    have e0 : decide ((n : Int) < 0) = false := decide_eq_false (by omega)
    unfold ResumeCalls
    go_enter Tryd.func92, Tryd.ntmps92
    go_wp2_with fail
    go_quiet (fail)
    go_wp2_with fail
    refine (HC.out _).mono ?_; rintro e w3 ⟨rfl, rfl⟩
    go_wp2_with fail
    refine (HL.out _ ((Grew.refl w).drewN _)).mono ?_; rintro e w2 ⟨rfl, h2, k2⟩
    have H2 := hidd h2
    have K2 := hidd ((Keep.of_grew ((Grew.refl w).drewN _)).trans k2)
    clear h2 k2
    go_wp2_with fail
    go_ret3
    rw [E.out]
    exact ⟨⟨q, by first | rfl | (congr 3; simp; omega) | simp, HH.out.k.kept K2.out⟩, H2.out, K2.out⟩
set_option maxRecDepth 100000 in
set_option maxHeartbeats 1000000 in
theorem resume_loop (h : MacRep X w0 bm rv s fuel m w) (hh : Head w0 w tb nb no q t k) (ho : t.op = 5) (hs : s.size ≤ 65536) (ha : a ≤ s.size) (hc : m.choices.length ≤ 1000000000) (hst : t.start ≤ s.size) : ResumeCalls X w0 bm rv s fuel m w tb t k a := by
  have hlen : s.data.toList.length = s.size := (size_data s).symm
  have t0 := hh.t0
  have t1 := hh.t1
  have t2 := hh.t2
  have t3 := hh.t3
  have c1 : w.cell? ⟨bm, 1, none⟩ = some (.string s) := by obtain ⟨sv, cv, gp, vs, h⟩ := h; exact h.c1
  rw [ho] at t0
  have HM := hidd h
  have HH := hidd hh
  have eR : resume s t k a m = (if a = t.start then (none, m) else (some (k, a), m.later (⟨4, t.node, 0⟩ :: k) a)) := by
    unfold resume; dsimp only; rw [if_neg (by omega), if_neg (by omega), if_neg (by omega), if_neg (by omega), if_neg (by omega), if_pos ho]
  clear h hh ho hlen
  by_cases hlt : a = t.start
  · have E : Hid (resume s t k a m = (none, m)) := by rw [Hid, eR, if_pos hlt]
    have e1 : (((a : Int) == (t.start : Int)) = true) := by rw [beq_iff_eq]; omega
    clear eR hlt
    unfold ResumeCalls
    go_enter Tryd.func92, Tryd.ntmps92
    go_wp2_with fail
    go_quiet (fail)
    go_wp2_with fail
    go_ret3
    rw [E.out]
    exact ⟨rfl, HM.out.kept ((Grew.refl w).drewN _), Keep.of_grew ((Grew.refl w).drewN _)⟩
  · have HL : Hid (∀ w1, Grew w w1 → Calls Tryd.prog 115 #[.pointer (some ⟨bm, 0, none⟩), .int .i64 4, .pointer (some ⟨nb, no, none⟩), .int .i64 ((a : Int)), .int .i64 0, .pointer q] w1 fun e w' => e = .returned (.tuple #[]) ∧ MacRep X w0 bm rv s fuel (m.later (⟨4, t.node, 0⟩ :: k) (a)) w' ∧ Keep w1 w') :=
      fun w1 g => later_int (HM.out.kept g) 4 0 (by rfl) (by omega) (by rfl) HH.out.p (HH.out.k.kept (Keep.of_grew g)) hc
    have E : Hid (resume s t k a m = (some (k, a), m.later (⟨4, t.node, 0⟩ :: k) a)) := by rw [Hid, eR, if_neg hlt]
    have e1 : (((a : Int) == (t.start : Int)) = false) := beq_eq_false_iff_ne.2 (by omega)
    clear eR hlt
    unfold ResumeCalls
    go_enter Tryd.func92, Tryd.ntmps92
    go_wp2_with fail
    go_quiet (fail)
    go_wp2_with fail
    refine (HL.out _ ((Grew.refl w).drewN _)).mono ?_; rintro e w2 ⟨rfl, h2, k2⟩
    have H2 := hidd h2
    have K2 := hidd ((Keep.of_grew ((Grew.refl w).drewN _)).trans k2)
    clear h2 k2
    go_wp2_with fail
    go_ret3
    rw [E.out]
    exact ⟨⟨q, by first | rfl | (congr 3; simp; omega) | simp, HH.out.k.kept K2.out⟩, H2.out, K2.out⟩
end
end Go.Proofs.YtkkdpafkafjfgaaDoor
namespace Go.Proofs.YtkkdpafkafjfgaaDoor
open Go.RowKit
set_option linter.unusedVariables false
section
variable {X : Far} {w0 w : World} {bm tb nb no : Nat} {q : Option Addr} {rv : Value} {s : ByteArray} {fuel : Nat} {m : MS} {t : Todo} {k : List Todo} {a : Nat}
set_option maxRecDepth 100000 in
set_option maxHeartbeats 1000000 in
theorem resume_fence (h : MacRep X w0 bm rv s fuel m w) (hh : Head w0 w tb nb no q t k) (ho : t.op = 8) : ResumeCalls X w0 bm rv s fuel m w tb t k a := by
  have t0 := hh.t0
  have t1 := hh.t1
  have t2 := hh.t2
  have t3 := hh.t3
  have e1 : resume s t k a m = (none, m.shut) := by unfold resume; dsimp only; rw [if_pos ho]
  obtain ⟨sv, cv, gp, vs, h⟩ := h
  have c1 := h.c1
  rw [ho] at t0
  have E := hidd e1
  clear hh ho e1
  unfold ResumeCalls
  have c7 := h.c7
  have f7 := h.free 7
  have d5 : (w.setCell ⟨bm, 7, none⟩ (.bool true)).cell? ⟨bm, 5, none⟩ = some cv := by rw [setCell_cell_other _ _ _ _ (.inr (by simp))]; exact h.c5
  have d6 : (w.setCell ⟨bm, 7, none⟩ (.bool true)).frozen? ⟨bm, 5, none⟩ = false := by rw [setCell_frozen]; exact h.free 5
  have d7 : ∀ n, ((w.drewN n).setCell ⟨bm, 7, none⟩ (.bool true)).cell? ⟨bm, 5, none⟩ = some cv := fun n => d5
  have d8 : ∀ n, ((w.drewN n).setCell ⟨bm, 7, none⟩ (.bool true)).frozen? ⟨bm, 5, none⟩ = false := fun n => d6
  rcases h.own.2 with ⟨rfl, hn0⟩ | ⟨g, cap, cur, rfl, g1, g2, g3, g4, g5, g6⟩
  · have HE := hidd (shut_end h (World.ownsRow_nil w _ _ 3))
    clear h hn0
    go_enter Tryd.func92, Tryd.ntmps92
    go_wp2_with fail
    go_quiet (fail)
    go_wp2_with fail
    go_ret3
    rw [E.out]
    exact ⟨rfl, by first | exact HE.out.1.kept ((Grew.refl _).drewN _) | exact HE.out.1, by first | exact HE.out.2.drewN _ | exact HE.out.2⟩
  · have HE := hidd (shut_end h (cv' := .slice (some ⟨g, 0, none⟩) 0 cap) ⟨by simp, .inr ⟨g, cap, cur, rfl, g1, g2, by omega, g4, g5, by simp⟩⟩)
    clear h g1 g2 g3 g4 g5 g6
    go_enter Tryd.func92, Tryd.ntmps92
    go_wp2_with fail
    go_quiet (fail)
    go_wp2_with fail
    go_ret3
    rw [E.out]
    exact ⟨rfl, by first | exact HE.out.1.kept ((Grew.refl _).drewN _) | exact HE.out.1, by first | exact HE.out.2.drewN _ | exact HE.out.2⟩
theorem heap_two (w : World) (o o' : Obj) : ((w.alloc o).alloc o').heap[w.heap.size]? = some o ∧ ((w.alloc o).alloc o').heap[w.heap.size + 1]? = some o' := by
  refine ⟨?_, ?_⟩
  · rw [heap_alloc_old _ _ (by simp)]; exact heap_alloc_new w o
  · rw [show w.heap.size + 1 = (w.alloc o).heap.size by simp]; exact heap_alloc_new _ o'
set_option maxRecDepth 100000 in
set_option maxHeartbeats 1000000 in
theorem resume_again (h : MacRep X w0 bm rv s fuel m w) (hh : Head w0 w tb nb no q t k) (ho : t.op = 4) (hk : 0 < t.node.kids.length) : ResumeCalls X w0 bm rv s fuel m w tb t k a := by
  have t0 := hh.t0
  have t1 := hh.t1
  have t2 := hh.t2
  have t3 := hh.t3
  have e1 : resume s t k a m = (some (⟨0, t.node.kid 0, 0⟩ :: ⟨5, t.node, a⟩ :: k, a), m) := by
    unfold resume; dsimp only; rw [if_neg (by omega), if_neg (by omega), if_neg (by omega), if_neg (by omega), if_pos ho]
  obtain ⟨b', o', c, hn, hc1, hc2, hkids⟩ := hh.p.kid hk
  have hk0 := hkids 0 hk
  rw [Nat.zero_mul, Nat.add_zero] at hk0
  have k4 := (hn.kept h.grew).c4
  have c1 : w.cell? ⟨bm, 1, none⟩ = some (.string s) := by obtain ⟨sv, cv, gp, vs, h⟩ := h; exact h.c1
  rw [ho] at t0
  have E := hidd e1
  have HM := hidd h
  have HH := hidd hh
  have HK := hidd hk0
  have hkl : t.node.kids.length ≤ 9223372036854775807 := by unfold maxLen at hc2; omega
  clear hh ho e1 h hn hkids hk0 hc1 hc2
  unfold ResumeCalls
  go_enter Tryd.func92, Tryd.ntmps92
  go_wp2_with fail
  go_quiet (fail)
  go_wp2_with fail
  go_ret3
  rw [E.out]
  have g := ((Grew.refl w).alloc (.cells #[.int .i64 5, .pointer (some ⟨nb, no, none⟩), .int .i64 a, .pointer q] 188)).alloc (.cells #[.int .i64 0, .pointer (some ⟨b', o', none⟩), .int .i64 0, .pointer (some ⟨w.heap.size, 0, none⟩)] 188)
  obtain ⟨b1, b2⟩ := heap_two w (.cells #[.int .i64 5, .pointer (some ⟨nb, no, none⟩), .int .i64 a, .pointer q] 188) (.cells #[.int .i64 0, .pointer (some ⟨b', o', none⟩), .int .i64 0, .pointer (some ⟨w.heap.size, 0, none⟩)] 188)
  refine ⟨⟨some ⟨w.heap.size + 1, 0, none⟩, rfl, ⟨w.heap.size + 1, b', o', some ⟨w.heap.size, 0, none⟩, rfl, b2, HK.out, w.heap.size, nb, no, q, rfl, b1, HH.out.p, ?_⟩⟩, ?_, ?_⟩
  · exact HH.out.k.kept ((Keep.of_grew g).drewN _)
  · exact (HM.out.kept g).kept ((Grew.refl _).drewN _)
  · exact (Keep.of_grew g).drewN _
theorem give_end {sv cv : Value} {gp : Option Addr} {vs : List Value} (h : MacSt X w0 bm rv s fuel m w sv cv gp vs) {x : Gift} (n : Nat) :
    MacRep X w0 bm rv s fuel { m with given := m.given ++ [x] } (((w.drewN n).alloc (.cells #[.string x.1, .string x.2, .pointer gp] 199)).setCell ⟨bm, 6, none⟩ (.pointer (some ⟨w.heap.size, 0, none⟩))) ∧
    Keep w (((w.drewN n).alloc (.cells #[.string x.1, .string x.2, .pointer gp] 199)).setCell ⟨bm, 6, none⟩ (.pointer (some ⟨w.heap.size, 0, none⟩))) := by
  have g : Grew w ((w.drewN n).alloc (.cells #[.string x.1, .string x.2, .pointer gp] 199)) := ((Grew.refl w).drewN n).alloc _
  obtain ⟨h2, k2⟩ := given_set (m' := { m with given := m.given ++ [x] }) (gp' := some ⟨w.heap.size, 0, none⟩) (h.kept g) (by
    show GiftsR _ _ _
    dsimp only
    rw [List.reverse_append]
    exact ⟨w.heap.size, gp, rfl, heap_alloc_new (w.drewN n) _, h.given.kept (Keep.of_grew g)⟩) rfl rfl rfl rfl
  exact ⟨⟨_, _, _, _, h2⟩, (Keep.of_grew g).trans k2⟩
set_option maxRecDepth 100000 in
set_option maxHeartbeats 1000000 in
theorem resume_give (h : MacRep X w0 bm rv s fuel m w) (hh : Head w0 w tb nb no q t k) (ho : t.op = 6) (hs : s.size ≤ 65536) (ha : a ≤ s.size) (hst : t.start ≤ a) : ResumeCalls X w0 bm rv s fuel m w tb t k a := by
  have t0 := hh.t0
  have t1 := hh.t1
  have t2 := hh.t2
  have t3 := hh.t3
  have e1 : resume s t k a m = (some (k, a), { m with given := m.given ++ [(t.node.name, s.extract t.start a)] }) := by
    unfold resume; dsimp only; rw [if_neg (by omega), if_neg (by omega), if_neg (by omega), if_neg (by omega), if_neg (by omega), if_neg (by omega), if_pos ho]
  have k3 : w.cell? ⟨nb, no + 3, none⟩ = some (.string t.node.name) := by
    obtain ⟨v, hv⟩ := hh.p.open
    exact (hv.1.kept h.grew).c3
  obtain ⟨sv, cv, gp, vs, h⟩ := h
  have c1 := h.c1
  have c6 := h.c6
  have f6 := h.free 6
  rw [ho] at t0
  have E := hidd e1
  have HM := hidd h
  have HH := hidd hh
  have ca : ∀ n o, ((w.drewN n).alloc o).cell? ⟨bm, 6, none⟩ = some (.pointer gp) := fun n o => by
    rw [(((Grew.refl w).drewN n).alloc o).cell h.lt]; exact c6
  have fa : ∀ n o, ((w.drewN n).alloc o).frozen? ⟨bm, 6, none⟩ = false := fun n o => by
    rw [(((Grew.refl w).drewN n).alloc o).frozen h.lt]; exact f6
  clear hh ho e1 h
  unfold ResumeCalls
  go_enter Tryd.func92, Tryd.ntmps92
  go_wp2_with fail
  go_quiet (fail)
  go_wp2_with fail
  go_region
  all_goals
    go_wp2_with fail
    go_ret3
    rw [E.out]
    obtain ⟨h2, k2⟩ := give_end (x := (t.node.name, s.extract t.start a)) HM.out (nq + 1)
    exact ⟨⟨q, rfl, HH.out.k.kept k2⟩, h2, k2⟩
set_option maxRecDepth 100000 in
set_option maxHeartbeats 1000000 in
theorem resume_say (h : MacRep X w0 bm rv s fuel m w) (hh : Head w0 w tb nb no q t k) (ho : t.op = 7) (hs : s.size ≤ 65536) (ha : a ≤ s.size) (hst : t.start ≤ a) (hd : m.said.length ≤ 1000000000000) : ResumeCalls X w0 bm rv s fuel m w tb t k a := by
  have t0 := hh.t0
  have t1 := hh.t1
  have t2 := hh.t2
  have t3 := hh.t3
  have e1 : resume s t k a m = (some (k, a), m.speak (t.node.name, s.extract t.start a)) := by
    unfold resume; dsimp only; rw [if_neg (by omega), if_neg (by omega), if_neg (by omega), if_neg (by omega), if_neg (by omega), if_neg (by omega), if_neg (by omega)]
  have k3 : w.cell? ⟨nb, no + 3, none⟩ = some (.string t.node.name) := by
    obtain ⟨v, hv⟩ := hh.p.open
    exact (hv.1.kept h.grew).c3
  have HS : Hid (∀ w1, Grew w w1 → Calls Tryd.prog 118 #[.pointer (some ⟨bm, 0, none⟩), .string t.node.name, .string (s.extract t.start a)] w1 fun e w' => e = .returned (.tuple #[]) ∧ MacRep X w0 bm rv s fuel (m.speak (t.node.name, s.extract t.start a)) w' ∧ Keep w1 w') := fun w1 g => say_any (h.kept g) t.node.name (s.extract t.start a) hd
  obtain ⟨sv, cv, gp, vs, h⟩ := h
  have c1 := h.c1
  rw [ho] at t0
  have E := hidd e1
  have HM := hidd h
  have HH := hidd hh
  have HG := hidd (fun n => (Grew.refl w).drewN n)
  clear hh ho e1 h
  unfold ResumeCalls
  go_enter Tryd.func92, Tryd.ntmps92
  go_wp2_with fail
  go_quiet (fail)
  go_wp2_with fail
  go_region_held3 (fun w' => w'.cell? ⟨nb, no + 3, none⟩ = some (.string t.node.name) ∧ w'.cell? ⟨tb, 2, none⟩ = some (.int .i64 t.start)) (first | go_keep | exact hnm)
    (first
     | (go_at_call 118; refine (HS.out _ (HG.out _)).mono ?_; rintro e w3 ⟨rfl, h3, k3'⟩; have hnm : w3.cell? ⟨nb, no + 3, none⟩ = some (.string t.node.name) ∧ w3.cell? ⟨tb, 2, none⟩ = some (.int .i64 t.start) := ⟨by obtain ⟨v, hv⟩ := HH.out.p.open; exact (hv.1.kept h3.grew).c3, (HH.out.kept ((Keep.of_grew (HG.out _)).trans k3')).t2⟩; have H3 : Hid (MacRep X w0 bm rv s fuel (m.speak (t.node.name, s.extract t.start a)) w3 ∧ Keep w w3) := ⟨h3, (Keep.of_grew (HG.out _)).trans k3'⟩; clear h3 k3'))
  all_goals
    go_wp2_with fail
    go_ret3
    rw [E.out]
    exact ⟨⟨q, rfl, HH.out.k.kept H3.out.2⟩, H3.out.1, H3.out.2⟩
end
end Go.Proofs.YtkkdpafkafjfgaaDoor
