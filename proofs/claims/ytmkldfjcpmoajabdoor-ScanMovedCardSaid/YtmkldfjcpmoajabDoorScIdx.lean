/- scan.index and scan.pairs: at every text. -/
import Derived.Test.YtmkldfjcpmoajabDoorScRules
import Derived.Test.YtmkldfjcpmoajabDoorScMach
import Derived.Test.YtmkldfjcpmoajabDoorShelfB
import Derived.Lib.ItoaWalk
namespace Go.Proofs.YtmkldfjcpmoajabDoor
open Go.RowKit
set_option linter.unusedVariables false

theorem indexByte_has : ∀ (l : List UInt8) (c : UInt8), (l.contains c = true ∧ 0 ≤ Lib.indexByte l c) ∨ (l.contains c = false ∧ Lib.indexByte l c = -1)
  | [], c => Or.inr ⟨rfl, rfl⟩
  | b :: l, c => by
    by_cases e : b = c
    · subst e; exact Or.inl ⟨by simp, by simp [Lib.indexByte]⟩
    · have e2 : (b == c) = false := beq_eq_false_iff_ne.2 e
      have e3 : (b :: l).contains c = l.contains c := by simp [Ne.symm e]
      rw [e3]
      rcases indexByte_has l c with ⟨h1, h2⟩ | ⟨h1, h2⟩
      · refine Or.inl ⟨h1, ?_⟩
        rw [Lib.indexByte, if_neg (by rw [e2]; simp), if_neg (by rw [beq_iff_eq]; omega)]; omega
      · refine Or.inr ⟨h1, ?_⟩
        rw [Lib.indexByte, if_neg (by rw [e2]; simp), if_pos (by rw [h2]; rfl)]
theorem indexByte_ge (l : List UInt8) (c : UInt8) : decide (0 ≤ Lib.indexByte l c) = l.contains c := by
  rcases indexByte_has l c with ⟨h1, h2⟩ | ⟨h1, h2⟩
  · rw [h1]; simpa using h2
  · rw [h1, h2]; rfl
theorem byte_back (c : UInt8) : (c.toNat : Int).toNat.toUInt8 = c := by simp

set_option maxRecDepth 100000 in
theorem index_any (s t : ByteArray) (b : Bool) (w : World) (hs : s.size ≤ 65536) :
    Calls Tryd.prog 39 #[.string s, .string t, .bool b] w fun e w' => e = .returned (.int .i64 (optInt (idx s.data.toList t.data.toList b))) ∧ w = w' := by
  have hl : s.data.toList.length = s.size := (size_data s).symm
  have HL := hidd hl
  clear hl
  go_enter Tryd.func39, Tryd.ntmps39
  go_wp2_with fail
  go_loop [7, 10] (fun _ u => ∃ k : Nat, k ≤ s.size ∧ u = .int .i64 k ∧ Hid (∀ j, j < k → (t.data.toList.contains (s.data.toList.getD j 0) == b) = false)) (fun _ u => s.size - (intOf u).toNat)
  case atStart => exact ⟨0, by omega, rfl, fun j hj => absurd hj (by omega)⟩
  case round =>
    obtain ⟨k, hk, rfl, HN⟩ := hrel
    by_cases hlt : k < s.size
    · have e1 : s.data.toList.getD k 0 = s[k] := (Lib.getD_at s k hlt).symm
      have hb := (s[k]).toNat_lt
      have HC := hidd (fun w => Tryd.strings_IndexByte t ((s[k]).toNat : Int) w)
      rw [byte_back] at HC
      have HG := hidd (indexByte_ge t.data.toList s[k])
      obtain ⟨x, hx⟩ : ∃ x, Lib.indexByte t.data.toList s[k] = x := ⟨_, rfl⟩
      rw [hx] at HC HG
      have HT : Hid ((decide (0 ≤ x) == b) = true → idx s.data.toList t.data.toList b = some k) := fun h => findIdx_hit 0 _ _ k (by rw [HL.out]; exact hlt) (by rw [e1, ← HG.out]; exact h) HN.out
      have HT2 : Hid ((decide (0 ≤ x) == b) = false → ∀ j, j < k + 1 → (t.data.toList.contains (s.data.toList.getD j 0) == b) = false) := fun h j hj => by
        by_cases e2 : j = k
        · rw [e2, e1, ← HG.out]; exact h
        · exact HN.out j (by omega)
      clear e1 hx HG
      have hxc : decide (0 ≤ x) = true ∨ decide (0 ≤ x) = false := by cases decide (0 ≤ x) <;> simp
      rcases hxc with hxc | hxc
      all_goals
        rw [hxc] at HT HT2
        cases b
        all_goals
          go_wp2_with fail
          refine (HC.out _).mono ?_; rintro e w2 ⟨rfl, rfl⟩
          go_wp2_with fail
          first
          | (go_ret
             rw [HT.out (by first | rfl | trivial)]
             exact ⟨rfl, rfl⟩)
          | (go_round
             case rel => exact ⟨k + 1, by omega, by go_num, HT2.out (by first | rfl | trivial)⟩
             case measure => simp [intOf]; omega)
    · obtain rfl : k = s.size := by omega
      have HE : Hid (idx s.data.toList t.data.toList b = none) := findIdx_no 0 _ _ (fun j hj => HN.out j (by rw [← HL.out]; exact hj))
      go_wp2_with fail
      go_ret
      rw [HE.out]
      exact ⟨rfl, rfl⟩

theorem pairLen_more (c : UInt8) (l : List UInt8) (d k : Nat) : (pairLen (c :: l) d).map (· + k) =
    if c = 40 then (pairLen l (d + 1)).map (· + (k + 1)) else if c = 41 then (if d = 0 then none else if d = 1 then some (k + 1) else (pairLen l (d - 1)).map (· + (k + 1)))
    else if d = 0 then some (k + 1) else (pairLen l d).map (· + (k + 1)) := by
  have e : ∀ o : Option Nat, (o.map (· + 1)).map (· + k) = o.map (· + (k + 1)) := by
    intro o; cases o with
    | none => rfl
    | some x => simp; omega
  rw [pairLen.eq_def]
  dsimp only
  split
  · exact e _
  split
  · match d with
    | 0 => rfl
    | 1 => simp; omega
    | d + 2 => rw [if_neg (by omega), if_neg (by omega)]; exact e _
  split
  · simp; omega
  · exact e _

set_option maxRecDepth 100000 in
theorem pairs_any (s : ByteArray) (w : World) (hs : s.size ≤ 65536) :
    Calls Tryd.prog 40 #[.string s] w fun e w' => e = .returned (.int .i64 (optInt (pairLen s.data.toList 0))) ∧ w = w' := by
  have hl : s.data.toList.length = s.size := (size_data s).symm
  obtain ⟨X, hX⟩ : ∃ X, pairLen s.data.toList 0 = X := ⟨_, rfl⟩
  rw [hX]
  have HX : Hid ((pairLen (s.data.toList.drop 0) 0).map (· + 0) = X) := by rw [Hid, List.drop_zero, hX]; cases X <;> rfl
  clear hX
  have HL := hidd hl
  clear hl
  go_enter Tryd.func40, Tryd.ntmps40
  go_wp2_with fail
  go_loop [3, 4, 7, 13, 17] (fun d _ u _ _ => ∃ k dd : Nat, k ≤ s.size ∧ dd ≤ k ∧ u = .int .i64 k ∧ d = .int .i64 dd ∧ Hid ((pairLen (s.data.toList.drop k) dd).map (· + k) = X)) (fun _ _ u _ _ => s.size - (intOf u).toNat)
  case atStart => exact ⟨0, 0, by omega, by omega, rfl, rfl, HX⟩
  case round =>
    obtain ⟨k, dd, hk, hdd, rfl, rfl, HR⟩ := hrel
    by_cases hlt : k < s.size
    · have e1 : s.data.toList.drop k = s[k] :: s.data.toList.drop (k + 1) := by
        rw [List.drop_eq_getElem_cons (by rw [HL.out]; exact hlt)]; rfl
      have hb := (s[k]).toNat_lt
      have HR2 := HR.out
      rw [e1, pairLen_more] at HR2
      clear e1 HX
      by_cases h40 : (s[k]).toNat = 40
      · have g1 : (((s[k]).toNat : Int) == 40) = true := by rw [beq_iff_eq]; omega
        rw [if_pos (by rw [← UInt8.toNat_inj]; exact h40)] at HR2
        have H2 := hidd HR2
        have z1 : (((dd : Int) + 1 == 0) = false) := beq_eq_false_iff_ne.2 (by omega)
        clear HR2 h40
        go_wp2_with fail
        go_round
        case rel => exact ⟨k + 1, dd + 1, by omega, by omega, by go_num, by go_num, H2⟩
        case measure => simp [intOf]; omega
      have g1 : (((s[k]).toNat : Int) == 40) = false := beq_eq_false_iff_ne.2 (by omega)
      rw [if_neg (by rw [← UInt8.toNat_inj]; exact h40)] at HR2
      by_cases h41 : (s[k]).toNat = 41
      · have g2 : (((s[k]).toNat : Int) == 41) = true := by rw [beq_iff_eq]; omega
        rw [if_pos (by rw [← UInt8.toNat_inj]; exact h41)] at HR2
        clear h41 h40
        have hd3 : dd = 0 ∨ dd = 1 ∨ 2 ≤ dd := by omega
        rcases hd3 with hd | hd | hd
        · rw [if_pos hd] at HR2
          subst hd
          have H2 := hidd HR2
          clear HR2
          go_wp2_with fail
          go_ret
          rw [← H2.out]
          exact ⟨rfl, rfl⟩
        · rw [if_neg (by omega), if_pos hd] at HR2
          subst hd
          have H2 := hidd HR2
          clear HR2
          go_wp2_with fail
          go_ret
          rw [← H2.out]
          exact ⟨by simp [optInt], rfl⟩
        · rw [if_neg (by omega), if_neg (by omega)] at HR2
          obtain ⟨q, rfl⟩ : ∃ q, dd = q + 2 := ⟨dd - 2, by omega⟩
          have H2 := hidd HR2
          have ei : (((q + 2 : Nat) : Int) - 1) = ((q + 1 : Nat) : Int) := by omega
          have z1 : ((((q + 1 : Nat) : Int) == 0) = false) := beq_eq_false_iff_ne.2 (by omega)
          clear HR2
          go_wp2_with fail
          go_round
          case rel => exact ⟨k + 1, q + 1, by omega, by omega, by go_num, by first | rfl | (congr 1 <;> omega) | (simp <;> omega), H2⟩
          case measure => simp [intOf]; omega
      have g2 : (((s[k]).toNat : Int) == 41) = false := beq_eq_false_iff_ne.2 (by omega)
      rw [if_neg (by rw [← UInt8.toNat_inj]; exact h41)] at HR2
      clear h41 h40
      by_cases hd : dd = 0
      · rw [if_pos hd] at HR2
        subst hd
        have H2 := hidd HR2
        clear HR2
        go_wp2_with fail
        go_ret
        rw [← H2.out]
        exact ⟨by simp [optInt], rfl⟩
      · rw [if_neg hd] at HR2
        have H2 := hidd HR2
        have z1 : (((dd : Int) == 0) = false) := beq_eq_false_iff_ne.2 (by omega)
        clear HR2
        go_wp2_with fail
        go_round
        case rel => exact ⟨k + 1, dd, by omega, by omega, by go_num, rfl, H2⟩
        case measure => simp [intOf]; omega
    · obtain rfl : k = s.size := by omega
      have HE : Hid (X = none) := by rw [Hid, ← HR.out, List.drop_of_length_le (by rw [HL.out]; exact Nat.le_refl _)]; rfl
      go_wp2_with fail
      go_ret
      rw [HE.out]
      exact ⟨rfl, rfl⟩
end Go.Proofs.YtmkldfjcpmoajabDoor
