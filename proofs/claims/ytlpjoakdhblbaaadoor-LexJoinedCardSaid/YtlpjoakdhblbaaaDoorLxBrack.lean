/- lex.bracketed: how long a pattern in brackets is. Conditions: the texts' own bound. -/
import Derived.Test.YtlpjoakdhblbaaaDoorLxPlain
namespace Go.Proofs.YtlpjoakdhblbaaaDoor
open Go.RowKit
set_option linter.unusedVariables false
def brk (l : List UInt8) : Option Nat := bLen (l.length + 1) l
theorem brk_nil : brk [] = none := rfl
theorem brk_cons (c : UInt8) (l : List UInt8) : brk (c :: l) = if c.toNat = 93 then some 1 else if c.toNat = 39 then
      match qLen l with
      | none => none
      | some q => (brk (l.drop q)).map (· + (1 + q))
    else (brk l).map (· + 1) := by
  unfold brk
  rw [List.length_cons, bLen]
  split
  · rfl
  · split
    · cases hq : qLen l with
      | none => rfl
      | some q =>
        dsimp only
        rw [bLen_fuel (l.length + 1) ((l.drop q).length + 1) (l.drop q) (by rw [List.length_drop]; omega) (by omega)]
    · rfl
theorem brk_le {l : List UInt8} {q : Nat} (h : brk l = some q) : 0 < q ∧ q ≤ l.length := bLen_le _ l q h
theorem brk_stop {l : List UInt8} {i : Nat} (h : i < l.length) (hc : (l[i]).toNat = 93) : lenI i (brk (l.drop i)) = ((i + 1 : Nat) : Int) := by
  rw [drop_at h, brk_cons, if_pos hc]; rfl
theorem brk_skip {l : List UInt8} {i : Nat} (h : i < l.length) (hc : (l[i]).toNat ≠ 93) (hd : (l[i]).toNat ≠ 39) : lenI i (brk (l.drop i)) = lenI (i + 1) (brk (l.drop (i + 1))) := by
  rw [drop_at h, brk_cons, if_neg hc, if_neg hd, lenI_map]
theorem brk_none {l : List UInt8} {i : Nat} (h : i < l.length) (hd : (l[i]).toNat = 39) (hq : qLen (l.drop (i + 1)) = none) : lenI i (brk (l.drop i)) = 0 := by
  rw [drop_at h, brk_cons, if_neg (by omega), if_pos hd, hq]; rfl
theorem brk_some {l : List UInt8} {i q : Nat} (h : i < l.length) (hd : (l[i]).toNat = 39) (hq : qLen (l.drop (i + 1)) = some q) : lenI i (brk (l.drop i)) = lenI (i + 1 + q) (brk (l.drop (i + 1 + q))) := by
  rw [drop_at h, brk_cons, if_neg (by omega), if_pos hd, hq]
  dsimp only
  rw [lenI_map, List.drop_drop, Nat.add_assoc]
theorem rest_data (s : ByteArray) (i : Nat) : (s.extract i s.size).data.toList = s.data.toList.drop i := by
  rw [Lib.extract_data, List.take_of_length_le (by rw [List.length_drop, ← size_data]; omega)]
set_option maxHeartbeats 2000000 in
theorem bracketed_any (s : ByteArray) (w : World) (hs : s.size ≤ maxLen) : Calls Tryd.prog 15 #[.string s] w fun e w' => e = .returned (.int .i64 (lenI 1 (brk (s.data.toList.drop 1)))) ∧ w' = w := by
  have hss : s.size ≤ 9223372036854775807 := by unfold maxLen at hs; omega
  obtain ⟨R, hR⟩ : ∃ R, lenI 1 (brk (s.data.toList.drop 1)) = R := ⟨_, rfl⟩
  have HR := hidd hR
  rw [hR]
  clear hR
  go_enter Tryd.func15, Tryd.ntmps15
  go_wp2_with fail
  go_loopw [3] (fun u3 wr => ∃ i : Nat, u3 = .int .i64 i ∧ (i ≤ s.size ∨ i = 1) ∧ wr = w ∧ Hid (lenI i (brk (s.data.toList.drop i)) = R)) (fun u3 _ => s.size - (intOf u3).toNat)
  case atStart => exact ⟨1, rfl, Or.inr rfl, rfl, HR⟩
  case round =>
    obtain ⟨i, rfl, hi, rfl, HI⟩ := hrel
    clear HR
    by_cases h : i < s.size
    · have h' : i < s.data.toList.length := h
      have hdl : decide ((i : Int) < (s.size : Int)) = true := decide_eq_true (by omega)
      have hdl2 : decide (i < s.size) = true := decide_eq_true h
      obtain ⟨c, hc⟩ : ∃ c, (s[i]'h).toNat = c := ⟨_, rfl⟩
      have HC : Hid ((s.data.toList[i]'h').toNat = c) := hc
      by_cases h93 : c = 93
      · have k93 : ((c : Int) == 93) = true := by simp [h93]
        have HN := hidd (brk_stop h' (HC.out.trans h93))
        go_wp2_with fail
        go_ret
        exact ⟨by rw [← HI.out, HN.out]; rfl, rfl⟩
      · have k93 : ((c : Int) == 93) = false := by simp; omega
        by_cases h39 : c = 39
        · have k39 : ((c : Int) == 39) = true := by simp [h39]
          have HV : Hid (Calls Tryd.prog 13 #[.string (s.extract i s.size)] wr fun e w' => e = .returned (.int .i64 (lenI 1 (qLen (s.data.toList.drop (i + 1))))) ∧ w' = wr) := by
            have := quoted_any (s.extract i s.size) wr (by rw [ByteArray.size_extract]; omega)
            rw [rest_data, List.drop_drop] at this
            exact this
          clear hs
          cases hq : qLen (s.data.toList.drop (i + 1)) with
          | none =>
            rw [hq] at HV
            have HN := hidd (brk_none h' (HC.out.trans h39) hq)
            clear hq
            go_wp2_with fail
            refine HV.out.mono ?_; rintro e w1 ⟨rfl, rfl⟩
            simp only [lenI]
            go_wp2_with fail
            go_ret
            exact ⟨by rw [← HI.out, HN.out]; rfl, rfl⟩
          | some q =>
            rw [hq] at HV
            have HN := hidd (brk_some h' (HC.out.trans h39) hq)
            have hql := qLen_le _ _ q (Nat.le_refl _) hq
            have hql2 : q ≤ s.size - (i + 1) := by have := hql.2; rw [List.length_drop, ← size_data] at this; exact this
            have hql1 := hql.1
            have k0 : (((1 + q : Nat) : Int) == 0) = false := by simp; omega
            clear hq hql
            go_wp2_with fail
            refine HV.out.mono ?_; rintro e w1 ⟨rfl, rfl⟩
            simp only [lenI]
            go_wp2_with fail
            exact ⟨⟨i + 1 + q, (by simp; omega), (by omega), trivial, (by rw [Hid, ← HN.out]; exact HI.out)⟩, (by simp [intOf]; omega)⟩
        · have k39 : ((c : Int) == 39) = false := by simp; omega
          have HN := hidd (brk_skip h' (by rw [HC.out]; exact h93) (by rw [HC.out]; exact h39))
          go_wp2_with fail
          exact ⟨⟨i + 1, (by simp), (by omega), trivial, (by rw [Hid, ← HN.out]; exact HI.out)⟩, (by simp [intOf]; omega)⟩
    · have hdl : decide ((i : Int) < (s.size : Int)) = false := decide_eq_false (by omega)
      have hdl2 : decide (i < s.size) = false := decide_eq_false h
      have HE : Hid (R = 0) := by
        rw [Hid, ← HI.out, List.drop_eq_nil_of_le (show s.data.toList.length ≤ i by rw [← size_data]; omega)]; rfl
      go_wp2_with fail
      go_ret
      exact ⟨by rw [HE.out]; rfl, rfl⟩
end Go.Proofs.YtlpjoakdhblbaaaDoor
