/- pats.wrong, some kinds. -/
import Derived.Test.YtkkdpafkafjfgaaDoorShScPat
import Derived.Test.YtkkdpafkafjfgaaDoorShPAuEv
import Derived.Test.YtkkdpafkafjfgaaDoorShAuLs
namespace Go.Proofs.YtkkdpafkafjfgaaDoor
open Go.RowKit
set_option linter.unusedVariables false
set_option maxRecDepth 100000 in
set_option maxHeartbeats 4000000 in
theorem wrong_set_more {w : World} {b o : Nat} {k : Int} {t : ByteArray} {n : Int} {m : ByteArray} {L : Nat} (h : Seen w b o k t n m L) (hk : k = 3 ∨ k = 4 ∨ k = 5 ∨ k = 6 ∨ k = 7) (hs : t.size ≤ 65536) (hs0 : 0 < t.size) (hl : 0 < L) : Told w b o 5 := by
  obtain ⟨c0, c1, c2, c3, ⟨a, c, c4⟩, hL, hk2, hn2, ht, hm⟩ := h
  have e1 : decide (65536 < (t.size : Int)) = false := decide_eq_false (by omega)
  have e2 : t.toList.isEmpty = false := by
    rw [Lib.toList_data, ← Bool.not_eq_true, List.isEmpty_iff]
    intro e; have := size_data t; rw [e, List.length_nil] at this; omega
  clear hs hs0
  have e8 : decide ((L : Int) < 0) = false := decide_eq_false (by omega)
  have e9 : decide ((0 : Int) < (L : Int)) = true := decide_eq_true (by omega)
  have e7 : decide (0 < L) = true := decide_eq_true hl
  rcases hk with rfl | rfl | rfl | rfl | rfl
  all_goals
    unfold Told
    go_enter Tryd.func56, Tryd.ntmps56
    go_wp2_with fail
    go_ret
    exact ⟨rfl, rfl⟩
set_option maxRecDepth 100000 in
set_option maxHeartbeats 4000000 in
theorem wrong_set_ok {w : World} {b o : Nat} {k : Int} {t : ByteArray} {n : Int} {m : ByteArray} {L : Nat} (h : Seen w b o k t n m L) (hk : k = 3 ∨ k = 4 ∨ k = 5 ∨ k = 6 ∨ k = 7) (hs : t.size ≤ 65536) (hs0 : 0 < t.size) (hl : 0 ≤ L) (hl2 : L ≤ 0) : Told w b o 0 := by
  obtain ⟨c0, c1, c2, c3, ⟨a, c, c4⟩, hL, hk2, hn2, ht, hm⟩ := h
  have e1 : decide (65536 < (t.size : Int)) = false := decide_eq_false (by omega)
  have e2 : t.toList.isEmpty = false := by
    rw [Lib.toList_data, ← Bool.not_eq_true, List.isEmpty_iff]
    intro e; have := size_data t; rw [e, List.length_nil] at this; omega
  clear hs hs0
  obtain rfl : L = 0 := by omega
  clear hl hl2 hL
  rcases hk with rfl | rfl | rfl | rfl | rfl
  all_goals
    unfold Told
    go_enter Tryd.func56, Tryd.ntmps56
    go_wp2_with fail
    go_ret
    exact ⟨rfl, rfl⟩
end Go.Proofs.YtkkdpafkafjfgaaDoor
namespace Go.Proofs.YtkkdpafkafjfgaaDoor
open Go.RowKit
set_option linter.unusedVariables false
set_option maxRecDepth 100000 in
set_option maxHeartbeats 4000000 in
theorem wrong_name {w : World} {b o : Nat} {k : Int} {t : ByteArray} {n : Int} {m : ByteArray} {L : Nat} (h : Seen w b o k t n m L) (hk : k = 21 ∨ k = 22 ∨ k = 23 ∨ k = 24) (hs : named m = false) : Told w b o 7 := by
  obtain ⟨c0, c1, c2, c3, ⟨a, c, c4⟩, hL, hk2, hn2, ht, hm⟩ := h
  have HN := hidd hs
  clear hs
  rcases hk with rfl | rfl | rfl | rfl
  all_goals
    unfold Told
    go_enter Tryd.func56, Tryd.ntmps56
    go_wp2_with fail
    refine (Named_any m w hm).mono ?_; rintro e w2 ⟨rfl, rfl⟩
    rw [HN.out]
    go_wp2_with fail
    go_ret
    exact ⟨rfl, rfl⟩
set_option maxRecDepth 100000 in
set_option maxHeartbeats 4000000 in
theorem wrong_give_few {w : World} {b o : Nat} {k : Int} {t : ByteArray} {n : Int} {m : ByteArray} {L : Nat} (h : Seen w b o k t n m L) (hk : k = 21 ∨ k = 22) (hs : named m = true) (hl : L < 1) : Told w b o 5 := by
  obtain ⟨c0, c1, c2, c3, ⟨a, c, c4⟩, hL, hk2, hn2, ht, hm⟩ := h
  have HN := hidd hs
  clear hs
  have e8 : decide ((L : Int) < 1) = true := decide_eq_true (by omega)
  clear hl
  rcases hk with rfl | rfl
  all_goals
    unfold Told
    go_enter Tryd.func56, Tryd.ntmps56
    go_wp2_with fail
    refine (Named_any m w hm).mono ?_; rintro e w2 ⟨rfl, rfl⟩
    rw [HN.out]
    go_wp2_with fail
    go_ret
    exact ⟨rfl, rfl⟩
set_option maxRecDepth 100000 in
set_option maxHeartbeats 4000000 in
theorem wrong_give_more {w : World} {b o : Nat} {k : Int} {t : ByteArray} {n : Int} {m : ByteArray} {L : Nat} (h : Seen w b o k t n m L) (hk : k = 21 ∨ k = 22) (hs : named m = true) (hl : 1 < L) : Told w b o 5 := by
  obtain ⟨c0, c1, c2, c3, ⟨a, c, c4⟩, hL, hk2, hn2, ht, hm⟩ := h
  have HN := hidd hs
  clear hs
  have e8 : decide ((L : Int) < 1) = false := decide_eq_false (by omega)
  have e9 : decide ((1 : Int) < (L : Int)) = true := decide_eq_true (by omega)
  clear hl
  rcases hk with rfl | rfl
  all_goals
    unfold Told
    go_enter Tryd.func56, Tryd.ntmps56
    go_wp2_with fail
    refine (Named_any m w hm).mono ?_; rintro e w2 ⟨rfl, rfl⟩
    rw [HN.out]
    go_wp2_with fail
    go_ret
    exact ⟨rfl, rfl⟩
set_option maxRecDepth 100000 in
set_option maxHeartbeats 4000000 in
theorem wrong_give_ok {w : World} {b o : Nat} {k : Int} {t : ByteArray} {n : Int} {m : ByteArray} {L : Nat} (h : Seen w b o k t n m L) (hk : k = 21 ∨ k = 22) (hs : named m = true) (hl : 1 ≤ L) (hl2 : L ≤ 1) : Told w b o 0 := by
  obtain ⟨c0, c1, c2, c3, ⟨a, c, c4⟩, hL, hk2, hn2, ht, hm⟩ := h
  have HN := hidd hs
  clear hs
  have e8 : decide ((L : Int) < 1) = false := decide_eq_false (by omega)
  have e9 : decide ((1 : Int) < (L : Int)) = false := decide_eq_false (by omega)
  clear hl hl2
  rcases hk with rfl | rfl
  all_goals
    unfold Told
    go_enter Tryd.func56, Tryd.ntmps56
    go_wp2_with fail
    refine (Named_any m w hm).mono ?_; rintro e w2 ⟨rfl, rfl⟩
    rw [HN.out]
    go_wp2_with fail
    go_ret
    exact ⟨rfl, rfl⟩
set_option maxRecDepth 100000 in
set_option maxHeartbeats 4000000 in
theorem wrong_call_more {w : World} {b o : Nat} {k : Int} {t : ByteArray} {n : Int} {m : ByteArray} {L : Nat} (h : Seen w b o k t n m L) (hk : k = 23 ∨ k = 24) (hs : named m = true) (hl : 0 < L) : Told w b o 5 := by
  obtain ⟨c0, c1, c2, c3, ⟨a, c, c4⟩, hL, hk2, hn2, ht, hm⟩ := h
  have HN := hidd hs
  clear hs
  have e8 : decide ((L : Int) < 0) = false := decide_eq_false (by omega)
  have e9 : decide ((0 : Int) < (L : Int)) = true := decide_eq_true (by omega)
  have e7 : decide (0 < L) = true := decide_eq_true hl
  rcases hk with rfl | rfl
  all_goals
    unfold Told
    go_enter Tryd.func56, Tryd.ntmps56
    go_wp2_with fail
    refine (Named_any m w hm).mono ?_; rintro e w2 ⟨rfl, rfl⟩
    rw [HN.out]
    go_wp2_with fail
    go_ret
    exact ⟨rfl, rfl⟩
set_option maxRecDepth 100000 in
set_option maxHeartbeats 4000000 in
theorem wrong_call_ok {w : World} {b o : Nat} {k : Int} {t : ByteArray} {n : Int} {m : ByteArray} {L : Nat} (h : Seen w b o k t n m L) (hk : k = 23 ∨ k = 24) (hs : named m = true) (hl : 0 ≤ L) (hl2 : L ≤ 0) : Told w b o 0 := by
  obtain ⟨c0, c1, c2, c3, ⟨a, c, c4⟩, hL, hk2, hn2, ht, hm⟩ := h
  have HN := hidd hs
  clear hs
  obtain rfl : L = 0 := by omega
  clear hl hl2 hL
  rcases hk with rfl | rfl
  all_goals
    unfold Told
    go_enter Tryd.func56, Tryd.ntmps56
    go_wp2_with fail
    refine (Named_any m w hm).mono ?_; rintro e w2 ⟨rfl, rfl⟩
    rw [HN.out]
    go_wp2_with fail
    go_ret
    exact ⟨rfl, rfl⟩
set_option maxRecDepth 100000 in
set_option maxHeartbeats 4000000 in
theorem wrong_plain_more {w : World} {b o : Nat} {k : Int} {t : ByteArray} {n : Int} {m : ByteArray} {L : Nat} (h : Seen w b o k t n m L) (hk : k = 12 ∨ k = 13 ∨ k = 14 ∨ k = 15 ∨ k = 16 ∨ k = 17) (hl : 0 < L) : Told w b o 5 := by
  obtain ⟨c0, c1, c2, c3, ⟨a, c, c4⟩, hL, hk2, hn2, ht, hm⟩ := h
  have e8 : decide ((L : Int) < 0) = false := decide_eq_false (by omega)
  have e9 : decide ((0 : Int) < (L : Int)) = true := decide_eq_true (by omega)
  have e7 : decide (0 < L) = true := decide_eq_true hl
  rcases hk with rfl | rfl | rfl | rfl | rfl | rfl
  all_goals
    unfold Told
    go_enter Tryd.func56, Tryd.ntmps56
    go_wp2_with fail
    go_ret
    exact ⟨rfl, rfl⟩
set_option maxRecDepth 100000 in
set_option maxHeartbeats 4000000 in
theorem wrong_plain_ok {w : World} {b o : Nat} {k : Int} {t : ByteArray} {n : Int} {m : ByteArray} {L : Nat} (h : Seen w b o k t n m L) (hk : k = 12 ∨ k = 13 ∨ k = 14 ∨ k = 15 ∨ k = 16 ∨ k = 17) (hl : 0 ≤ L) (hl2 : L ≤ 0) : Told w b o 0 := by
  obtain ⟨c0, c1, c2, c3, ⟨a, c, c4⟩, hL, hk2, hn2, ht, hm⟩ := h
  obtain rfl : L = 0 := by omega
  clear hl hl2 hL
  rcases hk with rfl | rfl | rfl | rfl | rfl | rfl
  all_goals
    unfold Told
    go_enter Tryd.func56, Tryd.ntmps56
    go_wp2_with fail
    go_ret
    exact ⟨rfl, rfl⟩
end Go.Proofs.YtkkdpafkafjfgaaDoor

namespace Go.Proofs.YtkkdpafkafjfgaaDoor
set_option linter.unusedVariables false
def InF (g : Gl) : Prop := ∀ q, g.fo.getD q 0 < 2 ^ g.sets.length
theorem InF.join {g : Gl} (h : InF g) {a b : Nat} (hb : b < 2 ^ g.sets.length) : InF (g.join a b) := fun q => by
  rw [join_getD]
  show _ < 2 ^ g.sets.length
  split
  · split
    · exact Nat.or_lt_two_pow (h q) hb
    · exact h q
  · exact Nat.two_pow_pos _
theorem InF.one {g : Gl} (h : InF g) (s : Nat → Bool) : InF (g.one s).2 := by
  unfold Gl.one
  split
  · exact h
  · intro q
    show (g.fo ++ [0]).getD q 0 < 2 ^ (g.sets ++ [s]).length
    rw [getD_snoc0]
    exact Nat.lt_of_lt_of_le (h q) (Nat.pow_le_pow_right (n := 2) (by decide) (by simp))
theorem InF.op2 {c : Bool} {o k : Part} {g : Gl} (h : InF g) (hk : InG g k) : InF (op2 c o k g).2 := by
  cases c
  · exact h
  · exact h.join hk.first
def InC (b : Builder) : Prop := ∀ g, Fits g → InF g → InF (b g).2
theorem lit_inF : ∀ (l : List (Nat → Bool)) (o : Part) (g : Gl), Fits g → InG g o → InF g → InF (litG l o g).2
  | [], o, g, hf, ho, h => h
  | s :: l, o, g, hf, ho, h => by
    rw [litG]
    split
    · exact h
    · have h1 := one_in g s
      have h2 := one_fits hf s
      have h3 := op2_fits (c := true) h2.1 (ho.small hf) h2.2
      exact lit_inF l _ _ h3.1 (op2_in (c := true) (ho.mono h1.1) h1.2) ((h.one s).op2 (c := true) h1.2)
theorem kids_inF (c : Bool) : ∀ (l : List Builder), (∀ b ∈ l, InB b ∧ InC b) → ∀ (o : Part) (g : Gl), Fits g → InG g o → InF g → InF (kidsG c l o g).2
  | [], _, o, g, hf, ho, h => h
  | b :: l, hb, o, g, hf, ho, h => by
    obtain ⟨h1, h2, h3⟩ := (hb b (by simp)).1 g hf
    have hF := (hb b (by simp)).2 g hf h
    rw [kidsG]
    cases e : (b g).1 with
    | none => exact hF
    | some k =>
      have hk := h3 k e
      have h4 := op2_fits (c := c) h1 (ho.small hf) (hk.small h1)
      exact kids_inF c l (fun b hb' => hb b (by simp [hb'])) _ _ h4.1 (op2_in (c := c) (ho.mono h2) hk) (hF.op2 hk)
theorem head_inF (c : Bool) {l : List Builder} (h : ∀ b ∈ l, InB b ∧ InC b) : InC (headG c l) := fun g hf hg => by
  cases l with
  | nil => exact hg
  | cons b l =>
    obtain ⟨h1, h2, h3⟩ := (h b (by simp)).1 g hf
    have hF := (h b (by simp)).2 g hf hg
    rw [headG]
    cases e : (b g).1 with
    | none => exact hF
    | some k => exact kids_inF c l (fun b hb' => h b (by simp [hb'])) k _ h1 (h3 k e) hF
theorem star_inF {b : Builder} (h : InB b) (hc : InC b) : InC (fun g => starG (b g)) := fun g hf hg => by
  obtain ⟨h1, h2, h3⟩ := h g hf
  have hF := hc g hf hg
  cases e : (b g).1 with
  | none =>
    have : starG (b g) = (none, (b g).2) := by unfold starG; rw [e]
    dsimp only; rw [this]; exact hF
  | some k =>
    have : starG (b g) = (some (againP k), (b g).2.join k.last k.first) := by unfold starG; rw [e]
    dsimp only; rw [this]
    exact hF.join (h3 k e).first
theorem buildK_inF {k : Int} {t : ByteArray} {n : Int} {bs : List Builder} (h : ∀ b ∈ bs, InB b ∧ InC b) : InC (buildK k t n bs) := fun g hf hg => by
  unfold buildK
  split
  · exact lit_inF _ _ g hf (in0 g true) hg
  split
  · exact hg.one _
  split
  · exact hg.one _
  split
  · exact star_inF (b := fun g => someG (g.one allB)) (fun g hf => ⟨(one_fits hf _).1, (one_in g _).1, fun o e => by cases e; exact (one_in g _).2⟩) (fun g hf hg => hg.one _) g hf hg
  split
  · exact hg
  split
  · exact head_inF true h g hf hg
  split
  · exact head_inF false h g hf hg
  split
  · exact star_inF (head_in false fun b hb => (h b hb).1) (head_inF false h) g hf hg
  · exact hg
mutual
theorem build_inF : ∀ p : Pat, InC (buildP p)
  | .mk k t n m l => by rw [buildP]; exact buildK_inF fun b hb => ⟨buildL_in l b hb, buildL_inF l b hb⟩
theorem buildL_inF : ∀ (l : List Pat), ∀ b ∈ buildL l, InC b
  | [], b, h => by rw [buildL] at h; cases h
  | p :: l, b, h => by
    rw [buildL] at h
    cases h with
    | head => exact build_inF p
    | tail _ h => exact buildL_inF l b h
end
theorem inF0 : InF gl0 := fun q => by simp [gl0]
theorem may_lt {g : Gl} (h : InF g) {o : Part} (ho : InG g o) (s : Nat) : mayG g o s < 2 ^ g.sets.length := by
  unfold mayG
  split
  · exact ho.first
  · refine Nat.lt_pow_two_of_testBit _ fun i hi => ?_
    rw [Bool.eq_false_iff]
    intro hb
    rw [fold_or, Nat.zero_testBit] at hb
    rcases hb with hb | ⟨q, _, _, h3⟩
    · cases hb
    · rw [Nat.testBit_lt_two_pow (Nat.lt_of_lt_of_le (h q) (Nat.pow_le_pow_right (n := 2) (by decide) hi))] at h3; cases h3
theorem st_lt2 {g : Gl} (h : InF g) {o : Part} (ho : InG g o) (s c : Nat) : stG g o s c < 2 ^ g.sets.length := by
  refine Nat.lt_pow_two_of_testBit _ fun i hi => ?_
  rw [Bool.eq_false_iff]
  intro hb
  have h2 := ((st_bit g o s c i).1 hb).2.1
  unfold bit at h2
  rw [Nat.testBit_lt_two_pow (Nat.lt_of_lt_of_le (may_lt h ho s) (Nat.pow_le_pow_right (n := 2) (by decide) hi))] at h2; cases h2
end Go.Proofs.YtkkdpafkafjfgaaDoor

namespace Go.Proofs.YtkkdpafkafjfgaaDoor
open Go.RowKit RR
set_option linter.unusedVariables false
set_option maxRecDepth 100000
set_option linter.unusedSimpArgs false
theorem NotSt_any (A : Aut) (na ea : Option Addr) (nc ec : Nat) (b s c : Nat) (w : World) (h : Held w b A na nc ea ec) (hr : RightA A) (hs : s < A.next.length) (hc : c < 256) : Calls Tryd.prog 39 #[.int .i64 (s : Nat), .int .u8 (c : Nat), .pointer (some ⟨b, 0, none⟩)] w fun e w' => e = .returned (.int .i64 (stepA A s c : Nat)) ∧ Grew w w' := by
  have HS := hidd (Step_any A na ea nc ec b s c w h hr hs hc)
  clear h hr hs hc
  obtain ⟨x, hx⟩ : ∃ x, stepA A s c = x := ⟨_, rfl⟩
  rw [hx] at HS ⊢
  clear hx
  go_enter Tryd.func39, Tryd.ntmps39
  go_wp2_with fail
  refine HS.out.mono ?_; rintro e w1 ⟨rfl, g1⟩
  have HG := hidd g1
  clear g1
  go_wp2_with fail
  go_ret
  exact ⟨rfl, HG.out⟩
theorem NotEn_any (A : Aut) (na ea : Option Addr) (nc ec : Nat) (b s : Nat) (w : World) (h : Held w b A na nc ea ec) (hr : RightA A) (hs : s < A.next.length) : Calls Tryd.prog 41 #[.int .i64 (s : Nat), .pointer (some ⟨b, 0, none⟩)] w fun e w' => e = .returned (.bool (!A.ends.getD s false)) ∧ Grew w w' := by
  have he := h.box.en
  have hel := hr.ne
  obtain ⟨eb, eo, rfl, hce⟩ := h.rows.ends.get (by rw [hel]; have := hr.n0; omega)
  have hcs := hce s (by rw [hel]; exact hs)
  have hsl : s < A.ends.length := by rw [hel]; exact hs
  have h9 : A.ends.length ≤ 8192 := by rw [hel]; exact hr.n1
  obtain ⟨n, hn⟩ : ∃ n, A.ends.length = n := ⟨_, rfl⟩
  obtain ⟨x, hx⟩ : ∃ x, A.ends.getD s false = x := ⟨_, rfl⟩
  rw [hn] at he hsl h9
  rw [hx] at hcs ⊢
  clear hx hce hel hn hr hs h
  go_enter Tryd.func41, Tryd.ntmps41
  go_wp2_with fail
  go_ret
  exact ⟨rfl, Grew.refl _⟩
section
variable {P : Program} {wb w0 : World} {g : Nat} {Fin : World → Prop} {mk : List Nat} {is : Nat} {ops : Array Oper} {Q : Exit → Act → World → Prop} {shs : List Sh} {a0 : Act} {A : Array Edge} {i : Nat} {d : Option Tmp} {op : Op} {ty : TypeId} {pos : String} {G : Option (Nat × Bool)}
end
section
variable {P : Program} {w0 : World} {ops : Array Oper} {Q : Exit → Act → World → Prop} {shs : List Sh} {a0 : Act} {A : Array Edge} {i : Nat} {d : Option Tmp} {ty : TypeId} {pos : String} {G : Option (Nat × Bool)}
end
end Go.Proofs.YtkkdpafkafjfgaaDoor
