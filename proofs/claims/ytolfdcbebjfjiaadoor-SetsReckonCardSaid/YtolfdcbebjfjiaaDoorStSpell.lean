/- sets.plain, digit, spell: a byte as it is written. Conditions: bytes. -/
import Derived.Test.YtolfdcbebjfjiaaDoorStText
import Derived.Deep.RegionLaw
namespace Go.Proofs.YtolfdcbebjfjiaaDoor
open Go.RowKit
set_option linter.unusedVariables false
def plainB (b : Nat) : Bool := decide (32 < b) && decide (b < 127) && decide (b ≠ 45) && decide (b ≠ 92) && decide (b ≠ 94)
def hexd (n : Nat) : Nat := if n < 10 then 48 + n else 87 + n
def spellL (b : Nat) : List Nat := if plainB b then [b] else [92, hexd (b / 16), hexd (b % 16)]
def digV (b : Nat) : Int := if 48 ≤ b ∧ b ≤ 57 then (b : Int) - 48 else if 97 ≤ b ∧ b ≤ 102 then (b : Int) - 87 else -1
theorem hexd_lt (n : Nat) (h : n < 16) : hexd n < 103 := by unfold hexd; split <;> omega
theorem digV_hex : ∀ i : Fin 16, digV (hexd i.val) = i.val := by decide
theorem hexd_inj : ∀ i j : Fin 16, hexd i.val = hexd j.val → i = j := by decide
theorem digV_none {b : Nat} (h : ∀ i, i < 16 → hexd i ≠ b) : digV b = -1 := by
  unfold digV
  by_cases h1 : 48 ≤ b ∧ b ≤ 57
  · exfalso
    exact h (b - 48) (by omega) (by unfold hexd; rw [if_pos (by omega)]; omega)
  · rw [if_neg h1]
    by_cases h2 : 97 ≤ b ∧ b ≤ 102
    · exfalso
      exact h (b - 87) (by omega) (by unfold hexd; rw [if_neg (by omega)]; omega)
    · rw [if_neg h2]
def hexS : ByteArray := ⟨#[48, 49, 50, 51, 52, 53, 54, 55, 56, 57, 97, 98, 99, 100, 101, 102]⟩
theorem hex_at : ∀ i : Fin 16, hexS[i.val]? = some (UInt8.ofNat (hexd i.val)) := by decide
theorem hex_nat : ∀ i : Fin 16, (UInt8.ofNat (hexd i.val)).toNat = hexd i.val := by decide
theorem hex_run (k : IntKind) (i : Nat) (hi : i < 16) (w : World) : (Instr.index 9 (.string ⟨#[48, 49, 50, 51, 52, 53, 54, 55, 56, 57, 97, 98, 99, 100, 101, 102]⟩) (.int k i)).run Tryd.prog w = .ok (.int .u8 (hexd i)) w := by
  have h := hex_at ⟨i, hi⟩
  have h2 := hex_nat ⟨i, hi⟩
  simp only at h h2
  unfold hexS at h
  simp [Instr.index, asIntOf, Sem.run_bind, run_underlying Tryd.underlying9, h, h2]
theorem plain_any (b : Nat) (w : World) (hb : b < 256) : Calls Tryd.prog 36 #[.int .u8 b] w fun e w' => e = .returned (.bool (plainB b)) ∧ w' = w := by
  by_cases h1 : 32 < b
  · by_cases h2 : b < 127
    · by_cases h3 : b = 45
      · subst h3
        go_enter Tryd.func36, Tryd.ntmps36
        go_wp2_with fail
        go_ret
        exact ⟨rfl, rfl⟩
      · by_cases h4 : b = 92
        · subst h4
          go_enter Tryd.func36, Tryd.ntmps36
          go_wp2_with fail
          go_ret
          exact ⟨rfl, rfl⟩
        · by_cases h5 : b = 94
          · subst h5
            go_enter Tryd.func36, Tryd.ntmps36
            go_wp2_with fail
            go_ret
            exact ⟨rfl, rfl⟩
          · have HP : Hid (plainB b = true) := by simp [Hid, plainB, h1, h2, h3, h4, h5]
            have k1 : decide ((32 : Int) < (b : Int)) = true := decide_eq_true (by omega)
            have k2 : decide ((b : Int) < 127) = true := decide_eq_true (by omega)
            have k3 : ((b : Int) != 45) = true := by simp; omega
            have k4 : ((b : Int) != 92) = true := by simp; omega
            have k5 : ((b : Int) != 94) = true := by simp; omega
            go_enter Tryd.func36, Tryd.ntmps36
            go_wp2_with fail
            go_ret
            exact ⟨by rw [HP.out]; rfl, rfl⟩
    · have HP : Hid (plainB b = false) := by simp [Hid, plainB, h2]
      have k1 : decide ((32 : Int) < (b : Int)) = true := decide_eq_true (by omega)
      have k2 : decide ((b : Int) < 127) = false := decide_eq_false (by omega)
      go_enter Tryd.func36, Tryd.ntmps36
      go_wp2_with fail
      go_ret
      exact ⟨by rw [HP.out]; rfl, rfl⟩
  · have HP : Hid (plainB b = false) := by simp [Hid, plainB, h1]
    have k1 : decide ((32 : Int) < (b : Int)) = false := decide_eq_false (by omega)
    go_enter Tryd.func36, Tryd.ntmps36
    go_wp2_with fail
    go_ret
    exact ⟨by rw [HP.out]; rfl, rfl⟩
theorem digit_any (b : Nat) (w : World) (hb : b < 256) : Calls Tryd.prog 37 #[.int .u8 b] w fun e w' => e = .returned (.int .i64 (digV b)) ∧ w' = w := by
  go_enter Tryd.func37, Tryd.ntmps37
  go_wp2_with fail
  go_loopw [3, 4] (fun u3 u4 wr => ∃ (i : Nat), u4 = .int .i64 i ∧ i ≤ 16 ∧ Hid (∀ j, j < i → hexd j ≠ b) ∧ wr = w) (fun _ u4 _ => 16 - (intOf u4).toNat)
  case atStart => exact ⟨0, rfl, Nat.zero_le _, (fun j hj => by omega), rfl⟩
  case round =>
    obtain ⟨i, rfl, hi, HN, rfl⟩ := hrel
    by_cases h : i < 16
    · have hx := hex_run .i64 i h
      by_cases e : hexd i = b
      · have HD : Hid (digV b = i) := by rw [Hid, ← e]; exact digV_hex ⟨i, h⟩
        have he : (((hexd i : Nat) : Int) == (b : Int)) = true := by simp [e]
        go_wp2_with fail
        go_ret
        exact ⟨by rw [HD.out]; rfl, rfl⟩
      · have he : (((hexd i : Nat) : Int) == (b : Int)) = false := by simp; omega
        have HN2 : Hid (∀ j, j < i + 1 → hexd j ≠ b) := fun j hj => by
          by_cases h2 : j = i
          · subst h2; exact e
          · exact HN.out j (by omega)
        go_wp2_with fail
        exact ⟨⟨i + 1, (by simp), (by omega), HN2, trivial⟩, (by simp [intOf]; omega)⟩
    · obtain rfl : i = 16 := by omega
      have HD : Hid (digV b = -1) := digV_none HN.out
      go_wp2_with fail
      go_ret
      exact ⟨by rw [HD.out]; rfl, rfl⟩
theorem own_three {w : World} {B : Nat} {v : Value} {xs : List Value} (h : Own 5 w B v xs) (hB : B ≤ w.heap.size) (a b c : Int) (hl : xs.length + 3 ≤ 100000) (ty t' : TypeId) :
    ∃ v' w', (Builtin.append_ #[44, 44] ty #[v, .slice (some ⟨w.heap.size, 0, none⟩) 3 3]).run Tryd.prog (w.alloc (.cells #[.int .u8 a, .int .u8 b, .int .u8 c] t')) = .ok v' w' ∧ Own 5 w' B v' (xs ++ [.int .u8 a, .int .u8 b, .int .u8 c]) ∧ Below B w w' := by
  obtain ⟨i0, hi, hz0, hz1, hz2⟩ := info_parts info_u8
  obtain ⟨v', w', h1, h2, h3, _⟩ := run_append_own (P := Tryd.prog) (w.alloc (.cells #[.int .u8 a, .int .u8 b, .int .u8 c] t')) B 44 ty 5 i0 (.int .u8 0) 1 1 Tryd.underlying44 hi hz0 hz1 hz2 rfl (by decide) v xs.length xs (World.ownsRow.alloc h _) ⟨w.heap.size, 0, none⟩ 3 3 [.int .u8 a, .int .u8 b, .int .u8 c] rfl
    (by
      intro j u hj
      rw [plain_addr_add, Nat.zero_add, World.cell?_alloc_mark]
      match j, hj with
      | 0, hj => simp at hj; subst hj; rfl
      | 1, hj => simp at hj; subst hj; rfl
      | 2, hj => simp at hj; subst hj; rfl)
    (by intro u hu; simp at hu; rcases hu with rfl | rfl | rfl <;> rfl) (by unfold maxLen; simp; omega) (by simp; omega) (by simp; omega)
  refine ⟨v', w', h1, ?_, ?_⟩
  · unfold Own; rw [List.length_append]; exact h2
  · exact ((Below.refl B w).alloc hB _).grown h3 (by simp; omega) (fun k hk => (World.ownsRow.lt h k hk).1)
theorem step_append_eq {ops : Array Oper} {o : Oper} {a : Act} {w w' : World} {K : Act → World → Prop} {Q : Exit → Act → World → Prop} {E : Prop} (hgd : o.guard = none) {s x : Operand} {t t2 : TypeId}
    (ho : o.op = .call { callee := .builtin .append, args := #[s, x], argTypes := #[t, t2] }) {v u v' : Value} (hs : a.eval s = v) (hx : a.eval x = u)
    (hr : (Builtin.append_ #[t, t2] o.type #[v, u]).run Tryd.prog w = .ok v' w') (h : K (a.put o.dst v') w') : if Region.wanted o (yielded ops a.tmps) = true then Oper.wp Tryd.prog o a w K Q else E := by
  have hw : Region.wanted o (yielded ops a.tmps) = true := by simp [Region.wanted, hgd]
  rw [if_pos hw]
  unfold Oper.wp execOp
  simp only [ho, resolve, invoke, builtin, Sem.run_bind, Sem.run_pure, Result.andThen_ok, List.map_toArray, List.map_cons, List.map_nil, hs, hx, hr]
  exact h
theorem spell_any {w : World} {B : Nat} {v : Value} {xs : List Nat} (b : Nat) (h : Own 5 w B v (cellsL xs)) (hB : B ≤ w.heap.size) (hb : b < 256) (hl : xs.length ≤ 5000) :
    Calls Tryd.prog 33 #[v, .int .u8 b] w fun e w' => ∃ v', e = .returned v' ∧ Own 5 w' B v' (cellsL (xs ++ spellL b)) ∧ Below B w w' := by
  obtain ⟨v1, w1, hap, HO, HBw⟩ := own_byte h hB (b : Int) (by rw [cellsL_length]; omega) 44 5
  obtain ⟨v3, w3, hap3, HO3, HB3⟩ := own_three (w := w.drew) (h.drew) hB (92 : Int) ((hexd (b / 16) : Nat) : Int) ((hexd (b % 16) : Nat) : Int) (by rw [cellsL_length]; omega) 44 5
  have HO := hidd HO
  have HO3 := hidd HO3
  have HBw := hidd HBw
  have HB3 := hidd HB3
  clear h
  by_cases hp : plainB b = true
  · have HL : Hid (cellsL (xs ++ spellL b) = cellsL xs ++ [.int .u8 b]) := by unfold spellL; rw [Hid, if_pos hp, cellsL_snoc]
    go_enter Tryd.func33, Tryd.ntmps33
    go_wp2_with fail
    refine (plain_any b w hb).mono ?_; rintro e wp ⟨rfl, rfl⟩
    rw [hp]
    go_wp2_with (at_builtin; refine wpList_append_eq rfl rfl rfl rfl hap ?_)
    go_ret
    exact ⟨v1, rfl, by rw [HL.out]; exact HO.out, HBw.out⟩
  · have hp : plainB b = false := by simpa using hp
    have HL : Hid (cellsL (xs ++ spellL b) = cellsL xs ++ [.int .u8 92, .int .u8 ((hexd (b / 16) : Nat) : Int), .int .u8 ((hexd (b % 16) : Nat) : Int)]) := by unfold spellL; rw [Hid, if_neg (by simp [hp])]; simp [cellsL]
    obtain ⟨q, hq0⟩ : ∃ q, q = b / 16 := ⟨_, rfl⟩
    obtain ⟨r, hr0⟩ : ∃ r, r = b % 16 := ⟨_, rfl⟩
    rw [← hq0, ← hr0] at HL hap3 HO3
    have hq : ((b : Int) / 16) = (q : Int) := by omega
    have hr : ((b : Int) % 16) = (r : Int) := by omega
    have hq2 := hex_run .u8 q (by omega)
    have hr2 := hex_run .u8 r (by omega)
    have hwq : IntKind.u8.wrap (q : Int) = (q : Int) := by simp [IntKind.wrap, IntKind.signed, IntKind.bits]; omega
    have hwr : IntKind.u8.wrap (r : Int) = (r : Int) := by simp [IntKind.wrap, IntKind.signed, IntKind.bits]; omega
    have hrt : (b : Int).tmod 16 = (r : Int) := by rw [Int.tmod_eq_emod_of_nonneg (by omega)]; omega
    clear hq0 hr0
    go_enter Tryd.func33, Tryd.ntmps33
    go_wp2_with fail
    refine (plain_any b w hb).mono ?_; rintro e wp ⟨rfl, rfl⟩
    rw [hp]
    go_wp2_with fail
    go_region_law (refine step_append_eq rfl rfl rfl rfl hap3 ?_)
    all_goals (
      go_wp2_with fail
      go_ret
      exact ⟨v3, rfl, by rw [HL.out]; exact HO3.out, ((Below.refl B _).drew).trans HB3.out⟩)
end Go.Proofs.YtolfdcbebjfjiaaDoor
