/- The document's Unbase: of any text in any base. -/
import Derived.Test.YthhcpocgfmlbeaaDoorNrD
import Derived.Test.YthhcpocgfmlbeaaDoorFmU
import Derived.Test.YthhcpocgfmlbeaaDoorFmR
import Derived.Test.YthhcpocgfmlbeaaDoorBgZ
namespace Go.Proofs.YthhcpocgfmlbeaaDoor
open Go.RowKit
set_option linter.unusedVariables false
set_option maxRecDepth 100000 in
theorem RUnbase_none (t : ByteArray) (b : Int) (h : b < 2 ∨ 36 < b) (w : World) :
    Calls Tryd.prog 24 #[.string t, .int .i64 b] w fun e w' => e = .returned (.tuple #[.int .i64 0, .int .i64 3]) ∧ Grew w w' := by
  by_cases h2 : b < 2
  · have e2 : decide (b < 2) = true := decide_eq_true h2
    clear h
    go_enter Tryd.func24, Tryd.ntmps24
    go_wp2_with fail
    go_ret2
    exact ⟨rfl, Grew.refl _⟩
  · have e2 : decide (b < 2) = false := decide_eq_false h2
    have e3 : decide (36 < b) = true := decide_eq_true (by omega)
    clear h
    go_enter Tryd.func24, Tryd.ntmps24
    go_wp2_with fail
    go_ret2
    exact ⟨rfl, Grew.refl _⟩
set_option maxRecDepth 100000 in
theorem RUnbase_much (t : ByteArray) (b : Nat) (hb : 2 ≤ b) (h36 : b ≤ 36) (hs : t.size ≤ maxLen) (h : 65536 < t.size) (w : World) :
    Calls Tryd.prog 24 #[.string t, .int .i64 (b : Nat)] w fun e w' => e = .returned (.tuple #[.int .i64 0, .int .i64 4]) ∧ Grew w w' := by
  unfold maxLen at hs
  have e2 : decide ((b : Int) < 2) = false := decide_eq_false (by omega)
  have e3 : decide ((36 : Int) < (b : Int)) = false := decide_eq_false (by omega)
  have e4 : decide ((65536 : Int) < (t.size : Int)) = true := decide_eq_true (by omega)
  have e5 : decide (65536 < t.size) = true := decide_eq_true h
  go_enter Tryd.func24, Tryd.ntmps24
  go_wp2_with fail
  go_ret2
  exact ⟨rfl, Grew.refl _⟩
/-- What comes of digits with a sign ahead. -/
theorem neg_within {w : World} {x : Nat} {V : Nat} (hx : IntAt w x (V : Int)) (hv : nw V ≤ 65537) : Calls Tryd.prog 31 #[.pointer (some ⟨x, 0, none⟩), .pointer (some ⟨x, 0, none⟩)] w fun e w' => e = .returned (.pointer (some ⟨x, 0, none⟩)) ∧ But x w w' ∧ ∀ w2, Grew w' w2 → Calls Tryd.prog 32 #[.pointer (some ⟨x, 0, none⟩)] w2 fun e w3 => e = .returned (.tuple #[.int .i64 (numV (sgn V true)), .int .i64 (numE (sgn V true))]) ∧ w3 = w2 := by
  refine (Neg_self hx (by rw [Int.natAbs_natCast]; omega)).mono fun e w' ⟨he, b1, i1⟩ => ⟨he, b1, fun w2 g => ?_⟩
  exact Within_any (i1.kept g) (by show nw (-(V : Int)).natAbs ≤ 1099511627776; rw [Int.natAbs_neg, Int.natAbs_natCast]; omega)
theorem pos_within {w : World} {x : Nat} {V : Nat} (hx : IntAt w x (V : Int)) (hv : nw V ≤ 65537) : Calls Tryd.prog 32 #[.pointer (some ⟨x, 0, none⟩)] w fun e w3 => e = .returned (.tuple #[.int .i64 (numV (sgn V false)), .int .i64 (numE (sgn V false))]) ∧ w3 = w :=
  Within_any hx (by show nw ((V : Int)).natAbs ≤ 1099511627776; rw [Int.natAbs_natCast]; omega)
theorem pref45 (t : ByteArray) : (t.size = 0 ∧ Lib.hasPrefix t.data.toList [45] = false ∧ Lib.trimPrefix t.data.toList [45] = t.data.toList) ∨
    ∃ h : 0 < t.size, ((t[0]'h).toNat = 45 ∧ Lib.hasPrefix t.data.toList [45] = true ∧ Lib.trimPrefix t.data.toList [45] = (t.extract 1 t.size).data.toList) ∨
      ((((t[0]'h).toNat : Int) == 45) = false ∧ Lib.hasPrefix t.data.toList [45] = false ∧ Lib.trimPrefix t.data.toList [45] = t.data.toList) := by
  rcases Nat.eq_zero_or_pos t.size with h0 | h
  · left
    have : t.data.toList = [] := List.eq_nil_of_length_eq_zero (by rw [← size_data]; exact h0)
    rw [this]
    exact ⟨h0, rfl, rfl⟩
  · right
    refine ⟨h, ?_⟩
    have hl := list_of h
    by_cases hc : (t[0]'h).toNat = 45
    · left
      have e : (t[0]'h) = 45 := UInt8.toNat_inj.1 hc
      rw [hl, e]
      exact ⟨rfl, rfl, rfl⟩
    · right
      have e : (t[0]'h) ≠ 45 := fun e => hc (by rw [e]; rfl)
      have hp : Lib.hasPrefix t.data.toList [45] = false := by
        rw [hl]
        unfold Lib.hasPrefix
        simp [List.isPrefixOf, Ne.symm e]
      refine ⟨by rw [beq_eq_false_iff_ne]; omega, hp, ?_⟩
      unfold Lib.trimPrefix
      rw [hp]; rfl
set_option maxRecDepth 100000 in
set_option maxHeartbeats 4000000 in
theorem RUnbase_any (t : ByteArray) (b : Nat) (hb : 2 ≤ b) (h36 : b ≤ 36) (ht : t.size ≤ 65536) (w : World) :
    Calls Tryd.prog 24 #[.string t, .int .i64 (b : Nat)] w fun e w' => e = unbR b t.data.toList ∧ Grew w w' := by
  have e2 : decide ((b : Int) < 2) = false := decide_eq_false (by omega)
  have e3 : decide ((36 : Int) < (b : Int)) = false := decide_eq_false (by omega)
  have e4 : decide ((65536 : Int) < (t.size : Int)) = false := decide_eq_false (by omega)
  have hall : ∃ (D : ByteArray) (g : Bool), Lib.trimPrefix t.data.toList [45] = D.data.toList ∧ Lib.hasPrefix t.data.toList [45] = g ∧ D.size ≤ 65536 ∧ ((t.size = 0 ∧ D = t ∧ g = false) ∨ ∃ h : 0 < t.size, ((t[0]'h).toNat = 45 ∧ D = t.extract 1 t.size ∧ g = true) ∨ ((((t[0]'h).toNat : Int) == 45) = false ∧ D = t ∧ g = false)) := by
    rcases pref45 t with ⟨h0, h1, h2⟩ | ⟨h, ⟨h0, h1, h2⟩ | ⟨h0, h1, h2⟩⟩
    · exact ⟨t, false, h2, h1, ht, Or.inl ⟨h0, rfl, rfl⟩⟩
    · exact ⟨_, true, h2, h1, by rw [ByteArray.size_extract]; omega, Or.inr ⟨h, Or.inl ⟨h0, rfl, rfl⟩⟩⟩
    · exact ⟨t, false, h2, h1, ht, Or.inr ⟨h, Or.inr ⟨h0, rfl, rfl⟩⟩⟩
  obtain ⟨D, g, hD, hg, hDs, hcase⟩ := hall
  have HD := hidd (fun w1 => RDigits_any D b hb h36 hDs w1)
  have HR : Hid ((numV? b D.data.toList = none → unbR b t.data.toList = .returned (.tuple #[.int .i64 0, .int .i64 2])) ∧ (D.size = 0 → unbR b t.data.toList = .returned (.tuple #[.int .i64 0, .int .i64 2])) ∧ ∀ V, 0 < D.size → numV? b D.data.toList = some V → nw V ≤ 65537 ∧ unbR b t.data.toList = .returned (.tuple #[.int .i64 (numV (sgn V g)), .int .i64 (numE (sgn V g))])) := by
    refine ⟨fun h => unbR_bad (by rw [hD]; exact h), fun h => unbR_empty (by rw [hD]; exact List.eq_nil_of_length_eq_zero (by rw [← size_data]; exact h)), fun V h0 h => ⟨?_, ?_⟩⟩
    · have := numV?_fits h36 h
      rw [← size_data] at this; omega
    · rw [unbR_val (by rw [hD]; intro e; rw [size_data, e] at h0; exact absurd h0 (by simp)) (by rw [hD]; exact h), hg]; rfl
  obtain ⟨R, hRR⟩ : ∃ R, unbR b t.data.toList = R := ⟨_, rfl⟩
  rw [hRR] at HR ⊢
  clear hD hg hRR hb h36 ht hDs
  rcases hcase with ⟨h0, rfl, rfl⟩ | ⟨h, ⟨h0, rfl, rfl⟩ | ⟨h0, rfl, rfl⟩⟩
  · go_enter Tryd.func24, Tryd.ntmps24
    go_wp2_with fail
    refine (HD.out _).mono ?_; rintro e w1 ⟨g1, ⟨hn, rfl⟩ | ⟨V, hn, rfl, i1⟩⟩
    · have HF := hidd (And.intro (HR.out.1 hn) g1)
      clear g1 hn
      go_wp2_with fail
      go_ret2
      exact ⟨HF.out.1.symm, HF.out.2⟩
    · have HF := hidd (And.intro (HR.out.2.1 h0) g1)
      have d0 : decide (0 < D.size) = false := decide_eq_false (by omega)
      have d1 : decide ((0 : Int) < (D.size : Int)) = false := decide_eq_false (by omega)
      clear g1 hn i1
      go_wp2_with fail
      go_ret2
      exact ⟨HF.out.1.symm, HF.out.2⟩
  · obtain ⟨D, hD0⟩ : ∃ D, t.extract 1 t.size = D := ⟨_, rfl⟩
    have hone : (1 : Int) ≤ (t.size : Int) := by omega
    have hpos' : (0 : Int) < (t.size : Int) := by omega
    rw [hD0] at HD HR
    go_enter Tryd.func24, Tryd.ntmps24
    go_wp2_with fail
    try rw [hD0]
    refine (HD.out _).mono ?_; rintro e w1 ⟨g1, ⟨hn, rfl⟩ | ⟨V, hn, rfl, i1⟩⟩
    · have HF := hidd (And.intro (HR.out.1 hn) g1)
      clear g1 hn
      go_wp2_with fail
      go_ret2
      exact ⟨HF.out.1.symm, HF.out.2⟩
    · rcases Nat.eq_zero_or_pos D.size with hz | hz
      · have HF := hidd (And.intro (HR.out.2.1 hz) g1)
        have d0 : decide (0 < D.size) = false := decide_eq_false (by omega)
        have d1 : decide ((0 : Int) < (D.size : Int)) = false := decide_eq_false (by omega)
        clear g1 hn i1 hD0
        go_wp2_with fail
        go_ret2
        exact ⟨HF.out.1.symm, HF.out.2⟩
      · obtain ⟨hv, hr⟩ := HR.out.2.2 V hz hn
        have HF := hidd (And.intro hr g1)
        have HNg := hidd (neg_within i1 hv)
        have d0 : decide (0 < D.size) = true := decide_eq_true (by omega)
        have d1 : decide ((0 : Int) < (D.size : Int)) = true := decide_eq_true (by omega)
        clear g1 hn i1 hr hv hD0
        go_wp2_with fail
        refine HNg.out.mono ?_; rintro e w2 ⟨rfl, b2, hw⟩
        have HW := hidd hw
        have HG2 := hidd (b2.grew HF.out.2 (Nat.le_refl _))
        clear b2 hw
        go_wp2_with fail
        refine (HW.out _ (Grew.refl _)).mono ?_; rintro e w3 ⟨rfl, rfl⟩
        go_wp2_with fail
        go_ret2
        exact ⟨HF.out.1.symm, HG2.out⟩
  · have hpos' : (0 : Int) < (D.size : Int) := by omega
    go_enter Tryd.func24, Tryd.ntmps24
    go_wp2_with fail
    refine (HD.out _).mono ?_; rintro e w1 ⟨g1, ⟨hn, rfl⟩ | ⟨V, hn, rfl, i1⟩⟩
    · have HF := hidd (And.intro (HR.out.1 hn) g1)
      clear g1 hn
      go_wp2_with fail
      go_ret2
      exact ⟨HF.out.1.symm, HF.out.2⟩
    · obtain ⟨hv, hr⟩ := HR.out.2.2 V h hn
      have HF := hidd (And.intro hr g1)
      have HW := hidd (pos_within i1 hv)
      have d0 : decide (0 < D.size) = true := decide_eq_true (by omega)
      have d1 : decide ((0 : Int) < (D.size : Int)) = true := decide_eq_true (by omega)
      clear g1 hn i1 hr hv
      go_wp2_with fail
      refine HW.out.mono ?_; rintro e w3 ⟨rfl, rfl⟩
      go_wp2_with fail
      go_ret2
      exact ⟨HF.out.1.symm, HF.out.2⟩
end Go.Proofs.YthhcpocgfmlbeaaDoor
