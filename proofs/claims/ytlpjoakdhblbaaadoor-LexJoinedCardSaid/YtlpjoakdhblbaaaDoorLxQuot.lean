/- lex.letter, digit, quoted, bracketed: how long a text in quotes is, and a pattern in brackets. Conditions: the texts' own bound. -/
import Derived.Test.YtlpjoakdhblbaaaDoorArr
namespace Go.Proofs.YtlpjoakdhblbaaaDoor
open Go.RowKit
set_option linter.unusedVariables false
/-- Behind its first quote: how many bytes up to the last one, that one too. -/
def qLen : List UInt8 → Option Nat
  | [] => none
  | c :: l => if c.toNat ≠ 39 then (qLen l).map (· + 1) else
    match l with
    | [] => some 1
    | d :: l' => if d.toNat = 39 then (qLen l').map (· + 2) else some 1
/-- Its bytes. -/
def qText : List UInt8 → List UInt8
  | [] => []
  | c :: l => if c.toNat ≠ 39 then c :: qText l else
    match l with
    | [] => []
    | d :: l' => if d.toNat = 39 then d :: qText l' else []
/-- Behind its first bracket: how many bytes up to the last one, that one too. -/
def bLen : Nat → List UInt8 → Option Nat
  | 0, _ => none
  | _ + 1, [] => none
  | k + 1, c :: l => if c.toNat = 93 then some 1 else if c.toNat = 39 then
      match qLen l with
      | none => none
      | some q => (bLen k (l.drop q)).map (· + (1 + q))
    else (bLen k l).map (· + 1)
theorem qLen_cons (c : UInt8) (l : List UInt8) : qLen (c :: l) = (if c.toNat ≠ 39 then (qLen l).map (· + 1) else
    match l with
    | [] => some 1
    | d :: l' => if d.toNat = 39 then (qLen l').map (· + 2) else some 1) := by rw [qLen.eq_def]
theorem qText_cons (c : UInt8) (l : List UInt8) : qText (c :: l) = (if c.toNat ≠ 39 then c :: qText l else
    match l with
    | [] => []
    | d :: l' => if d.toNat = 39 then d :: qText l' else []) := by rw [qText.eq_def]
theorem qLen_le : ∀ (n : Nat) (l : List UInt8) (k : Nat), l.length ≤ n → qLen l = some k → 0 < k ∧ k ≤ l.length
  | _, [], k, _, h => by simp [qLen] at h
  | 0, c :: l, k, hn, h => by simp at hn
  | n + 1, c :: l, k, hn, h => by
    rw [qLen_cons] at h
    simp only [List.length_cons] at hn ⊢
    split at h
    · obtain ⟨m, h1, rfl⟩ := Option.map_eq_some_iff.1 h
      have := qLen_le n l m (by omega) h1
      omega
    · split at h
      · simp at h; subst h; simp
      · next d l' =>
        split at h
        · obtain ⟨m, h1, rfl⟩ := Option.map_eq_some_iff.1 h
          have := qLen_le n l' m (by simp at hn; omega) h1
          simp only [List.length_cons]
          omega
        · simp at h; subst h; simp
theorem bLen_fuel : ∀ (k m : Nat) (l : List UInt8), l.length < k → l.length < m → bLen k l = bLen m l
  | 0, m, l, h1, h2 => by omega
  | k + 1, 0, l, h1, h2 => by omega
  | k + 1, m + 1, [], h1, h2 => rfl
  | k + 1, m + 1, c :: l, h1, h2 => by
    simp only [List.length_cons] at h1 h2
    rw [bLen, bLen]
    split
    · rfl
    · split
      · cases hq : qLen l with
        | none => rfl
        | some q =>
          dsimp only
          rw [bLen_fuel k m (l.drop q) (by rw [List.length_drop]; omega) (by rw [List.length_drop]; omega)]
      · rw [bLen_fuel k m l (by omega) (by omega)]
theorem bLen_le : ∀ (k : Nat) (l : List UInt8) (q : Nat), bLen k l = some q → 0 < q ∧ q ≤ l.length
  | 0, l, q, h => by simp [bLen] at h
  | k + 1, [], q, h => by simp [bLen] at h
  | k + 1, c :: l, q, h => by
    rw [bLen] at h
    simp only [List.length_cons]
    split at h
    · simp at h; omega
    · split at h
      · cases hq : qLen l with
        | none => rw [hq] at h; simp at h
        | some q' =>
          rw [hq] at h
          obtain ⟨m, h1, rfl⟩ := Option.map_eq_some_iff.1 h
          have h2 := bLen_le k (l.drop q') m h1
          have h3 := qLen_le l.length l q' (Nat.le_refl _) hq
          rw [List.length_drop] at h2
          omega
      · obtain ⟨m, h1, rfl⟩ := Option.map_eq_some_iff.1 h
        have h2 := bLen_le k l m h1
        omega
theorem drop_at {l : List UInt8} {i : Nat} (h : i < l.length) : l.drop i = l[i] :: l.drop (i + 1) := List.drop_eq_getElem_cons h
def isLetter (c : Nat) : Bool := decide (65 ≤ c) && decide (c ≤ 90)
def isDigit (c : Nat) : Bool := decide (48 ≤ c) && decide (c ≤ 57)
theorem letter_any (c : Nat) (w : World) (hc : c < 256) : Calls Tryd.prog 11 #[.int .u8 c] w fun e w' => e = .returned (.bool (isLetter c)) ∧ w' = w := by
  by_cases h1 : 65 ≤ c
  · have k1 : decide ((65 : Int) ≤ (c : Int)) = true := decide_eq_true (by omega)
    have HP : Hid (isLetter c = decide ((c : Int) ≤ 90)) := by
      have e : decide ((c : Int) ≤ 90) = decide (c ≤ 90) := decide_eq_decide.2 (by omega)
      rw [Hid, e]; simp [isLetter, h1]
    go_enter Tryd.func11, Tryd.ntmps11
    go_wp2_with fail
    go_ret
    exact ⟨by rw [HP.out]; rfl, rfl⟩
  · have k1 : decide ((65 : Int) ≤ (c : Int)) = false := decide_eq_false (by omega)
    have HP : Hid (isLetter c = false) := by simp [Hid, isLetter, h1]
    go_enter Tryd.func11, Tryd.ntmps11
    go_wp2_with fail
    go_ret
    exact ⟨by rw [HP.out]; rfl, rfl⟩
theorem digit_any (c : Nat) (w : World) (hc : c < 256) : Calls Tryd.prog 12 #[.int .u8 c] w fun e w' => e = .returned (.bool (isDigit c)) ∧ w' = w := by
  by_cases h1 : 48 ≤ c
  · have k1 : decide ((48 : Int) ≤ (c : Int)) = true := decide_eq_true (by omega)
    have HP : Hid (isDigit c = decide ((c : Int) ≤ 57)) := by
      have e : decide ((c : Int) ≤ 57) = decide (c ≤ 57) := decide_eq_decide.2 (by omega)
      rw [Hid, e]; simp [isDigit, h1]
    go_enter Tryd.func12, Tryd.ntmps12
    go_wp2_with fail
    go_ret
    exact ⟨by rw [HP.out]; rfl, rfl⟩
  · have k1 : decide ((48 : Int) ≤ (c : Int)) = false := decide_eq_false (by omega)
    have HP : Hid (isDigit c = false) := by simp [Hid, isDigit, h1]
    go_enter Tryd.func12, Tryd.ntmps12
    go_wp2_with fail
    go_ret
    exact ⟨by rw [HP.out]; rfl, rfl⟩
/-- What quoted says: 0 where there is no end. -/
def lenI (i : Nat) : Option Nat → Int
  | some k => ((i + k : Nat) : Int)
  | none => 0
theorem lenI_map (i j : Nat) (o : Option Nat) : lenI i (o.map (· + j)) = lenI (i + j) o := by
  cases o with
  | none => rfl
  | some k => show (((i + (k + j) : Nat)) : Int) = ((i + j + k : Nat) : Int); omega
theorem qLen_skip {l : List UInt8} {i : Nat} (h : i < l.length) (hc : (l[i]).toNat ≠ 39) : lenI i (qLen (l.drop i)) = lenI (i + 1) (qLen (l.drop (i + 1))) := by
  rw [drop_at h, qLen_cons, if_pos hc, lenI_map]
theorem qLen_pair {l : List UInt8} {i : Nat} (h : i + 1 < l.length) (hc : (l[i]'(by omega)).toNat = 39) (hd : (l[i + 1]).toNat = 39) : lenI i (qLen (l.drop i)) = lenI (i + 2) (qLen (l.drop (i + 2))) := by
  rw [drop_at (by omega), qLen_cons, if_neg (by simp [hc]), drop_at h]
  dsimp only
  rw [if_pos hd, lenI_map]
theorem qLen_stop {l : List UInt8} {i : Nat} (h : i < l.length) (hc : (l[i]).toNat = 39) (hd : ∀ h1 : i + 1 < l.length, (l[i + 1]).toNat ≠ 39) : lenI i (qLen (l.drop i)) = ((i + 1 : Nat) : Int) := by
  rw [drop_at h, qLen_cons, if_neg (by simp [hc])]
  by_cases h1 : i + 1 < l.length
  · rw [drop_at h1]
    dsimp only
    rw [if_neg (hd h1)]; rfl
  · rw [List.drop_eq_nil_of_le (by omega)]; rfl
set_option maxHeartbeats 2000000 in
theorem quoted_any (s : ByteArray) (w : World) (hs : s.size ≤ maxLen) : Calls Tryd.prog 13 #[.string s] w fun e w' => e = .returned (.int .i64 (lenI 1 (qLen (s.data.toList.drop 1)))) ∧ w' = w := by
  have hss : s.size ≤ 9223372036854775807 := by unfold maxLen at hs; omega
  clear hs
  obtain ⟨R, hR⟩ : ∃ R, lenI 1 (qLen (s.data.toList.drop 1)) = R := ⟨_, rfl⟩
  have HR := hidd hR
  rw [hR]
  clear hR
  go_enter Tryd.func13, Tryd.ntmps13
  go_wp2_with fail
  go_loopw [3] (fun u3 wr => ∃ i : Nat, u3 = .int .i64 i ∧ (i ≤ s.size ∨ i = 1) ∧ wr = w ∧ Hid (lenI i (qLen (s.data.toList.drop i)) = R)) (fun u3 _ => s.size - (intOf u3).toNat)
  case atStart => exact ⟨1, rfl, Or.inr rfl, rfl, HR⟩
  case round =>
    obtain ⟨i, rfl, hi, rfl, HI⟩ := hrel
    by_cases h : i < s.size
    · have h' : i < s.data.toList.length := h
      have hdl : decide ((i : Int) < (s.size : Int)) = true := decide_eq_true (by omega)
      have hdl2 : decide (i < s.size) = true := decide_eq_true h
      obtain ⟨c, hc⟩ : ∃ c, (s[i]'h).toNat = c := ⟨_, rfl⟩
      have HC : Hid ((s.data.toList[i]'h').toNat = c) := hc
      by_cases h39 : c = 39
      · have k39 : ((c : Int) != 39) = false := by simp [h39]
        by_cases h1 : i + 1 < s.size
        · have h1' : i + 1 < s.data.toList.length := h1
          have hd1 : decide ((i : Int) + 1 < (s.size : Int)) = true := decide_eq_true (by omega)
          obtain ⟨d, hd⟩ : ∃ d, (s[i + 1]'h1).toNat = d := ⟨_, rfl⟩
          have HD : Hid ((s.data.toList[i + 1]'h1').toNat = d) := hd
          by_cases h40 : d = 39
          · have k40 : ((d : Int) == 39) = true := by simp [h40]
            have HN := hidd (qLen_pair h1' (HC.out.trans h39) (HD.out.trans h40))
            go_wp2_with fail
            exact ⟨⟨i + 2, (by simp; omega), (by omega), trivial, (by rw [Hid, ← HN.out]; exact HI.out)⟩, (by simp [intOf]; omega)⟩
          · have k40 : ((d : Int) == 39) = false := by simp; omega
            have HN := hidd (qLen_stop h' (HC.out.trans h39) (fun _ => by rw [HD.out]; exact h40))
            go_wp2_with fail
            go_ret
            exact ⟨by rw [← HI.out, HN.out]; rfl, rfl⟩
        · have hd1 : decide ((i : Int) + 1 < (s.size : Int)) = false := decide_eq_false (by omega)
          have HN := hidd (qLen_stop h' (HC.out.trans h39) (fun h2 => absurd h2 h1))
          go_wp2_with fail
          go_ret
          exact ⟨by rw [← HI.out, HN.out]; rfl, rfl⟩
      · have k39 : ((c : Int) != 39) = true := by simp; omega
        have HN := hidd (qLen_skip h' (by rw [HC.out]; exact h39))
        go_wp2_with fail
        exact ⟨⟨i + 1, (by simp), (by omega), trivial, (by rw [Hid, ← HN.out]; exact HI.out)⟩, (by simp [intOf]; omega)⟩
    · have hdl : decide ((i : Int) < (s.size : Int)) = false := decide_eq_false (by omega)
      have hdl2 : decide (i < s.size) = false := decide_eq_false h
      have HE : Hid (R = 0) := by
        rw [Hid, ← HI.out, List.drop_eq_nil_of_le (show s.data.toList.length ≤ i by rw [← size_data]; omega)]; rfl
      go_wp2_with fail
      go_ret
      exact ⟨by rw [HE.out]; rfl, rfl⟩
end Go.Proofs.YtlpjoakdhblbaaaDoor
