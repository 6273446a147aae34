/- The document's Add, Sub, Mul, Div, Rem: at every number of 64 bits. Printed. -/
import Derived.Test.YthhcpocgfmlbeaaBgK
namespace Go.Proofs.Ythhcpocgfmlbeaa
open Go.RowKit
set_option linter.unusedVariables false
theorem nw_small {A n : Nat} (h : A < B32 ^ n) (hn : n ≤ 1099511627776) : nw A ≤ 1099511627776 := Nat.le_trans (nw_le h) hn
theorem nw_64 {x : Int} (h : In64 x) : nw x.natAbs ≤ 1099511627776 := by
  obtain ⟨h0, h1⟩ := h
  exact nw_small (n := 2) (two_words.2 (by omega)) (by omega)
theorem four_words : B32 ^ 4 = 340282366920938463463374607431768211456 := by decide
theorem nw_sum {a b : Int} (ha : In64 a) (hb : In64 b) : nw (a + b).natAbs ≤ 1099511627776 := by
  obtain ⟨h0, h1⟩ := ha
  obtain ⟨k0, k1⟩ := hb
  exact nw_small (n := 4) (by rw [four_words]; omega) (by omega)
theorem nw_sub {a b : Int} (ha : In64 a) (hb : In64 b) : nw (a - b).natAbs ≤ 1099511627776 := by
  obtain ⟨h0, h1⟩ := ha
  obtain ⟨k0, k1⟩ := hb
  exact nw_small (n := 4) (by rw [four_words]; omega) (by omega)
theorem nw_mul {a b : Int} (ha : In64 a) (hb : In64 b) : nw (a * b).natAbs ≤ 1099511627776 := by
  obtain ⟨h0, h1⟩ := ha
  obtain ⟨k0, k1⟩ := hb
  refine nw_small (n := 4) ?_ (by omega)
  rw [Int.natAbs_mul, four_words]
  have := Nat.mul_le_mul (show a.natAbs ≤ 9223372036854775808 by omega) (show b.natAbs ≤ 9223372036854775808 by omega)
  omega
theorem nw_div {a b : Int} (ha : In64 a) : nw (a.tdiv b).natAbs ≤ 1099511627776 := by
  obtain ⟨h0, h1⟩ := ha
  refine nw_small (n := 4) ?_ (by omega)
  rw [Int.natAbs_tdiv, four_words]
  have : a.natAbs.div b.natAbs ≤ a.natAbs := Nat.div_le_self a.natAbs b.natAbs
  omega
theorem nw_mod {a b : Int} (ha : In64 a) : nw (a.tmod b).natAbs ≤ 1099511627776 := by
  obtain ⟨h0, h1⟩ := ha
  refine nw_small (n := 4) ?_ (by omega)
  rw [Int.natAbs_tmod, four_words]
  have := Nat.mod_le a.natAbs b.natAbs
  omega
set_option maxRecDepth 100000 in
set_option maxHeartbeats 2000000 in
theorem RAdd_any (a b : Int) (w : World) (ha : In64 a) (hb : In64 b) :
    Calls Try.prog 6 #[.int .i64 a, .int .i64 b] w fun e w' => e = numR (a + b) ∧ Grew w w' := by
  have HA := hidd (fun w1 => Big_any a ha w1)
  have HB := hidd (fun w1 => Big_any b hb w1)
  have HO : Hid (∀ w2 z x y, ObjAt w2 z → IntAt w2 x a → IntAt w2 y b → z ≠ x → z ≠ y → Calls Try.prog 22 #[.pointer (some ⟨z, 0, none⟩), .pointer (some ⟨x, 0, none⟩), .pointer (some ⟨y, 0, none⟩)] w2 fun e w' => e = .returned (.pointer (some ⟨z, 0, none⟩)) ∧ But z w2 w' ∧ IntAt w' z (a + b)) := fun w2 z x y h1 h2 h3 h4 h5 => Add_own h1 h2 h3 h4 h5 (nw_64 ha) (nw_64 hb)
  have HW : Hid (∀ w3 z, IntAt w3 z (a + b) → Calls Try.prog 21 #[.pointer (some ⟨z, 0, none⟩)] w3 fun e w' => e = numR (a + b) ∧ w' = w3) := fun w3 z h => Within_any h (nw_sum ha hb)
  have HG := hidd ((Grew.refl w).alloc (.cells #[.bool false, .slice none 0 0] 31))
  have HZ := hidd (obj_new w)
  have HR := hidd (numR_def (a + b))
  clear ha hb
  go_enter Try.func6, Try.ntmps6
  go_wp2_with fail
  refine (HA.out _).mono ?_; rintro e w1 ⟨rfl, g1, i1⟩
  rw [World.size_alloc] at i1 ⊢
  have h1 : w.heap.size + 1 ≤ w1.heap.size := by have := g1.size; simpa using this
  have H1 := hidd (And.intro (HG.out.trans g1) (And.intro (HZ.out.kept g1) i1))
  clear g1 i1
  go_wp2_with fail
  refine (HB.out _).mono ?_; rintro e w2 ⟨rfl, g2, i2⟩
  have H2 := hidd (And.intro (H1.out.1.trans g2) (And.intro (H1.out.2.1.kept g2) (And.intro (H1.out.2.2.kept g2) i2)))
  clear g2 i2
  go_wp2_with fail
  refine (HO.out _ _ _ _ H2.out.2.1 H2.out.2.2.1 H2.out.2.2.2 (by omega) (by omega)).mono ?_; rintro e w3 ⟨rfl, b3, i3⟩
  have H3 := hidd (And.intro (b3.grew H2.out.1 (Nat.le_refl _)) i3)
  clear b3 i3
  go_wp2_with fail
  refine (HW.out _ _ H3.out.2).mono ?_; rintro e w4 ⟨he, rfl⟩
  rw [HR.out] at he
  subst he
  go_wp2_with fail
  go_ret2
  exact ⟨HR.out.symm, H3.out.1⟩
set_option maxRecDepth 100000 in
set_option maxHeartbeats 2000000 in
theorem RSub_any (a b : Int) (w : World) (ha : In64 a) (hb : In64 b) :
    Calls Try.prog 8 #[.int .i64 a, .int .i64 b] w fun e w' => e = numR (a - b) ∧ Grew w w' := by
  have HA := hidd (fun w1 => Big_any a ha w1)
  have HB := hidd (fun w1 => Big_any b hb w1)
  have HO : Hid (∀ w2 z x y, ObjAt w2 z → IntAt w2 x a → IntAt w2 y b → z ≠ x → z ≠ y → Calls Try.prog 24 #[.pointer (some ⟨z, 0, none⟩), .pointer (some ⟨x, 0, none⟩), .pointer (some ⟨y, 0, none⟩)] w2 fun e w' => e = .returned (.pointer (some ⟨z, 0, none⟩)) ∧ But z w2 w' ∧ IntAt w' z (a - b)) := fun w2 z x y h1 h2 h3 h4 h5 => Sub_own h1 h2 h3 h4 h5 (nw_64 ha) (nw_64 hb)
  have HW : Hid (∀ w3 z, IntAt w3 z (a - b) → Calls Try.prog 21 #[.pointer (some ⟨z, 0, none⟩)] w3 fun e w' => e = numR (a - b) ∧ w' = w3) := fun w3 z h => Within_any h (nw_sub ha hb)
  have HG := hidd ((Grew.refl w).alloc (.cells #[.bool false, .slice none 0 0] 31))
  have HZ := hidd (obj_new w)
  have HR := hidd (numR_def (a - b))
  clear ha hb
  go_enter Try.func8, Try.ntmps8
  go_wp2_with fail
  refine (HA.out _).mono ?_; rintro e w1 ⟨rfl, g1, i1⟩
  rw [World.size_alloc] at i1 ⊢
  have h1 : w.heap.size + 1 ≤ w1.heap.size := by have := g1.size; simpa using this
  have H1 := hidd (And.intro (HG.out.trans g1) (And.intro (HZ.out.kept g1) i1))
  clear g1 i1
  go_wp2_with fail
  refine (HB.out _).mono ?_; rintro e w2 ⟨rfl, g2, i2⟩
  have H2 := hidd (And.intro (H1.out.1.trans g2) (And.intro (H1.out.2.1.kept g2) (And.intro (H1.out.2.2.kept g2) i2)))
  clear g2 i2
  go_wp2_with fail
  refine (HO.out _ _ _ _ H2.out.2.1 H2.out.2.2.1 H2.out.2.2.2 (by omega) (by omega)).mono ?_; rintro e w3 ⟨rfl, b3, i3⟩
  have H3 := hidd (And.intro (b3.grew H2.out.1 (Nat.le_refl _)) i3)
  clear b3 i3
  go_wp2_with fail
  refine (HW.out _ _ H3.out.2).mono ?_; rintro e w4 ⟨he, rfl⟩
  rw [HR.out] at he
  subst he
  go_wp2_with fail
  go_ret2
  exact ⟨HR.out.symm, H3.out.1⟩
set_option maxRecDepth 100000 in
set_option maxHeartbeats 2000000 in
theorem RMul_any (a b : Int) (w : World) (ha : In64 a) (hb : In64 b) :
    Calls Try.prog 10 #[.int .i64 a, .int .i64 b] w fun e w' => e = numR (a * b) ∧ Grew w w' := by
  have HA := hidd (fun w1 => Big_any a ha w1)
  have HB := hidd (fun w1 => Big_any b hb w1)
  have HO : Hid (∀ w2 z x y, ObjAt w2 z → IntAt w2 x a → IntAt w2 y b → z ≠ x → z ≠ y → Calls Try.prog 28 #[.pointer (some ⟨z, 0, none⟩), .pointer (some ⟨x, 0, none⟩), .pointer (some ⟨y, 0, none⟩)] w2 fun e w' => e = .returned (.pointer (some ⟨z, 0, none⟩)) ∧ But z w2 w' ∧ IntAt w' z (a * b)) := fun w2 z x y h1 h2 h3 h4 h5 => Mul_own h1 h2 h3 h4 h5 (nw_64 ha) (nw_64 hb)
  have HW : Hid (∀ w3 z, IntAt w3 z (a * b) → Calls Try.prog 21 #[.pointer (some ⟨z, 0, none⟩)] w3 fun e w' => e = numR (a * b) ∧ w' = w3) := fun w3 z h => Within_any h (nw_mul ha hb)
  have HG := hidd ((Grew.refl w).alloc (.cells #[.bool false, .slice none 0 0] 31))
  have HZ := hidd (obj_new w)
  have HR := hidd (numR_def (a * b))
  clear ha hb
  go_enter Try.func10, Try.ntmps10
  go_wp2_with fail
  refine (HA.out _).mono ?_; rintro e w1 ⟨rfl, g1, i1⟩
  rw [World.size_alloc] at i1 ⊢
  have h1 : w.heap.size + 1 ≤ w1.heap.size := by have := g1.size; simpa using this
  have H1 := hidd (And.intro (HG.out.trans g1) (And.intro (HZ.out.kept g1) i1))
  clear g1 i1
  go_wp2_with fail
  refine (HB.out _).mono ?_; rintro e w2 ⟨rfl, g2, i2⟩
  have H2 := hidd (And.intro (H1.out.1.trans g2) (And.intro (H1.out.2.1.kept g2) (And.intro (H1.out.2.2.kept g2) i2)))
  clear g2 i2
  go_wp2_with fail
  refine (HO.out _ _ _ _ H2.out.2.1 H2.out.2.2.1 H2.out.2.2.2 (by omega) (by omega)).mono ?_; rintro e w3 ⟨rfl, b3, i3⟩
  have H3 := hidd (And.intro (b3.grew H2.out.1 (Nat.le_refl _)) i3)
  clear b3 i3
  go_wp2_with fail
  refine (HW.out _ _ H3.out.2).mono ?_; rintro e w4 ⟨he, rfl⟩
  rw [HR.out] at he
  subst he
  go_wp2_with fail
  go_ret2
  exact ⟨HR.out.symm, H3.out.1⟩
set_option maxRecDepth 100000 in
set_option maxHeartbeats 2000000 in
theorem RDiv_any (a b : Int) (w : World) (ha : In64 a) (hb : In64 b) (h0 : b ≠ 0) :
    Calls Try.prog 12 #[.int .i64 a, .int .i64 b] w fun e w' => e = numR (a.tdiv b) ∧ Grew w w' := by
  have e0 : (b == 0) = false := by rw [beq_eq_false_iff_ne]; exact h0
  have HA := hidd (fun w1 => Big_any a ha w1)
  have HB := hidd (fun w1 => Big_any b hb w1)
  have HO : Hid (∀ w2 z x y, ObjAt w2 z → IntAt w2 x a → IntAt w2 y b → z ≠ x → z ≠ y → Calls Try.prog 29 #[.pointer (some ⟨z, 0, none⟩), .pointer (some ⟨x, 0, none⟩), .pointer (some ⟨y, 0, none⟩)] w2 fun e w' => e = .returned (.pointer (some ⟨z, 0, none⟩)) ∧ But z w2 w' ∧ IntAt w' z (a.tdiv b)) := fun w2 z x y h1 h2 h3 h4 h5 => Quo_own h1 h2 h3 (nw_64 ha) h0 (Or.inr (by obtain ⟨q0, q1⟩ := ha; omega))
  have HW : Hid (∀ w3 z, IntAt w3 z (a.tdiv b) → Calls Try.prog 21 #[.pointer (some ⟨z, 0, none⟩)] w3 fun e w' => e = numR (a.tdiv b) ∧ w' = w3) := fun w3 z h => Within_any h (nw_div ha)
  have HG := hidd ((Grew.refl w).alloc (.cells #[.bool false, .slice none 0 0] 31))
  have HZ := hidd (obj_new w)
  have HR := hidd (numR_def (a.tdiv b))
  clear ha hb h0
  go_enter Try.func12, Try.ntmps12
  go_wp2_with fail
  refine (HA.out _).mono ?_; rintro e w1 ⟨rfl, g1, i1⟩
  rw [World.size_alloc] at i1 ⊢
  have h1 : w.heap.size + 1 ≤ w1.heap.size := by have := g1.size; simpa using this
  have H1 := hidd (And.intro (HG.out.trans g1) (And.intro (HZ.out.kept g1) i1))
  clear g1 i1
  go_wp2_with fail
  refine (HB.out _).mono ?_; rintro e w2 ⟨rfl, g2, i2⟩
  have H2 := hidd (And.intro (H1.out.1.trans g2) (And.intro (H1.out.2.1.kept g2) (And.intro (H1.out.2.2.kept g2) i2)))
  clear g2 i2
  go_wp2_with fail
  refine (HO.out _ _ _ _ H2.out.2.1 H2.out.2.2.1 H2.out.2.2.2 (by omega) (by omega)).mono ?_; rintro e w3 ⟨rfl, b3, i3⟩
  have H3 := hidd (And.intro (b3.grew H2.out.1 (Nat.le_refl _)) i3)
  clear b3 i3
  go_wp2_with fail
  refine (HW.out _ _ H3.out.2).mono ?_; rintro e w4 ⟨he, rfl⟩
  rw [HR.out] at he
  subst he
  go_wp2_with fail
  go_ret2
  exact ⟨HR.out.symm, H3.out.1⟩
set_option maxRecDepth 100000 in
set_option maxHeartbeats 2000000 in
theorem RRem_any (a b : Int) (w : World) (ha : In64 a) (hb : In64 b) (h0 : b ≠ 0) :
    Calls Try.prog 14 #[.int .i64 a, .int .i64 b] w fun e w' => e = numR (a.tmod b) ∧ Grew w w' := by
  have e0 : (b == 0) = false := by rw [beq_eq_false_iff_ne]; exact h0
  have HA := hidd (fun w1 => Big_any a ha w1)
  have HB := hidd (fun w1 => Big_any b hb w1)
  have HO : Hid (∀ w2 z x y, ObjAt w2 z → IntAt w2 x a → IntAt w2 y b → z ≠ x → z ≠ y → Calls Try.prog 30 #[.pointer (some ⟨z, 0, none⟩), .pointer (some ⟨x, 0, none⟩), .pointer (some ⟨y, 0, none⟩)] w2 fun e w' => e = .returned (.pointer (some ⟨z, 0, none⟩)) ∧ But z w2 w' ∧ IntAt w' z (a.tmod b)) := fun w2 z x y h1 h2 h3 h4 h5 => Rem_own h1 h2 h3 (nw_64 ha) h0 (Or.inr (by obtain ⟨q0, q1⟩ := ha; omega))
  have HW : Hid (∀ w3 z, IntAt w3 z (a.tmod b) → Calls Try.prog 21 #[.pointer (some ⟨z, 0, none⟩)] w3 fun e w' => e = numR (a.tmod b) ∧ w' = w3) := fun w3 z h => Within_any h (nw_mod ha)
  have HG := hidd ((Grew.refl w).alloc (.cells #[.bool false, .slice none 0 0] 31))
  have HZ := hidd (obj_new w)
  have HR := hidd (numR_def (a.tmod b))
  clear ha hb h0
  go_enter Try.func14, Try.ntmps14
  go_wp2_with fail
  refine (HA.out _).mono ?_; rintro e w1 ⟨rfl, g1, i1⟩
  rw [World.size_alloc] at i1 ⊢
  have h1 : w.heap.size + 1 ≤ w1.heap.size := by have := g1.size; simpa using this
  have H1 := hidd (And.intro (HG.out.trans g1) (And.intro (HZ.out.kept g1) i1))
  clear g1 i1
  go_wp2_with fail
  refine (HB.out _).mono ?_; rintro e w2 ⟨rfl, g2, i2⟩
  have H2 := hidd (And.intro (H1.out.1.trans g2) (And.intro (H1.out.2.1.kept g2) (And.intro (H1.out.2.2.kept g2) i2)))
  clear g2 i2
  go_wp2_with fail
  refine (HO.out _ _ _ _ H2.out.2.1 H2.out.2.2.1 H2.out.2.2.2 (by omega) (by omega)).mono ?_; rintro e w3 ⟨rfl, b3, i3⟩
  have H3 := hidd (And.intro (b3.grew H2.out.1 (Nat.le_refl _)) i3)
  clear b3 i3
  go_wp2_with fail
  refine (HW.out _ _ H3.out.2).mono ?_; rintro e w4 ⟨he, rfl⟩
  rw [HR.out] at he
  subst he
  go_wp2_with fail
  go_ret2
  exact ⟨HR.out.symm, H3.out.1⟩
theorem RDiv_zero (a : Int) (w : World) : Calls Try.prog 12 #[.int .i64 a, .int .i64 0] w fun e w' => e = .returned (.tuple #[.int .i64 0, .int .i64 6]) ∧ Grew w w' := by
  go_enter Try.func12, Try.ntmps12
  go_wp2_with fail
  go_ret2
  exact ⟨rfl, Grew.refl _⟩
theorem RRem_zero (a : Int) (w : World) : Calls Try.prog 14 #[.int .i64 a, .int .i64 0] w fun e w' => e = .returned (.tuple #[.int .i64 0, .int .i64 6]) ∧ Grew w w' := by
  go_enter Try.func14, Try.ntmps14
  go_wp2_with fail
  go_ret2
  exact ⟨rfl, Grew.refl _⟩
theorem Div_zero (a : Int) (w : World) : Calls Try.prog 11 #[.int .i64 a, .int .i64 0] w fun e w' => e = .returned (.tuple #[.int .i64 0, .int .i64 6]) ∧ Grew w w' := by
  go_enter Try.func11, Try.ntmps11
  go_wp2_with fail
  go_ret2
  exact ⟨rfl, Grew.refl _⟩
theorem Rem_zero (a : Int) (w : World) : Calls Try.prog 13 #[.int .i64 a, .int .i64 0] w fun e w' => e = .returned (.tuple #[.int .i64 0, .int .i64 6]) ∧ Grew w w' := by
  go_enter Try.func13, Try.ntmps13
  go_wp2_with fail
  go_ret2
  exact ⟨rfl, Grew.refl _⟩
end Go.Proofs.Ythhcpocgfmlbeaa
