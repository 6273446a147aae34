/- lex.Line: at every text of a line's length. -/
import Derived.Test.YtlpjoakdhblbaaaDoorLxMem
namespace Go.Proofs.YtlpjoakdhblbaaaDoor
open Go.RowKit
set_option linter.unusedVariables false
def LineEnd (w : World) (o : Out) (e : Ending) (w' : World) : Prop := Grew w w' ∧ match o with
  | .bad a => e = .returned (.tuple #[.slice none 0 0, faultV 2 a])
  | .fine ts => ∃ v, e = .returned (.tuple #[v, faultV 0 0]) ∧ OwnT w' w.heap.size v ts
theorem fault_at (w : World) (x y : Int) : ArrAt (w.alloc (.cells #[.int .i64 x, .int .i64 y] 25)) w.heap.size 0 2 (twoF (.int .i64 x) (.int .i64 y)) := two_at w _ _ _
set_option maxHeartbeats 2000000 in
theorem Line_much (s : ByteArray) (w : World) (hs : s.size ≤ maxLen) (h : 2000 < s.size) : Calls Tryd.prog 6 #[.string s] w fun e w' => e = .returned (.tuple #[.slice none 0 0, faultV 4 0]) ∧ Grew w w' := by
  have hss : s.size ≤ 9223372036854775807 := by unfold maxLen at hs; omega
  clear hs
  have HF := hidd (fault_at w 4 0)
  have HG := hidd ((Grew.refl w).alloc (.cells #[.int .i64 4, .int .i64 0] 25))
  have k1 : decide (2000 < (s.size : Int)) = true := decide_eq_true (by omega)
  go_enter Tryd.func6, Tryd.ntmps6
  go_wp2_with fail
  exact bodyPost_tmp_arr rfl rfl rfl HF.out Tryd.underlying25 rfl info_fault rfl ⟨rfl, HG.out⟩
def sp (p : UInt8 → Bool) (l : List UInt8) : Nat := (l.takeWhile p).length
theorem sp_le (p : UInt8 → Bool) (l : List UInt8) : sp p l ≤ l.length := takeWhile_len p l
theorem sp_step {p : UInt8 → Bool} {l : List UInt8} {i : Nat} (h : i < l.length) (hp : p l[i] = true) : i + sp p (l.drop i) = i + 1 + sp p (l.drop (i + 1)) := by
  rw [drop_at h, sp, List.takeWhile_cons, if_pos hp]; simp [sp]; omega
theorem sp_stop {p : UInt8 → Bool} {l : List UInt8} {i : Nat} (h : i < l.length) (hp : p l[i] = false) : i + sp p (l.drop i) = i := by
  rw [drop_at h, sp, List.takeWhile_cons, if_neg (by simp [hp])]; simp
theorem sp_end {p : UInt8 → Bool} {l : List UInt8} {i : Nat} (h : ¬ i < l.length) : i + sp p (l.drop i) = i := by
  rw [List.drop_eq_nil_of_le (by omega)]; simp [sp]
section
variable {l : List UInt8} {i : Nat} {d : List Tok} {O : Out}
theorem lin_blank (h : i < l.length) (hc : (l[i]).toNat = 32) (hI : (line i (l.drop i)).ahead d = O) : (line (i + 1) (l.drop (i + 1))).ahead d = O := by
  have hb : bite l[i] (l.drop (i + 1)) = .blank := by unfold bite; rw [if_pos hc]
  rw [drop_at h, line_cons, hb] at hI
  exact hI
theorem lin_tok (h : i < l.length) {k n : Nat} {t : List UInt8} (hb : bite l[i] (l.drop (i + 1)) = .tok k t n) (hI : (line i (l.drop i)).ahead d = O) : (line (i + n) (l.drop (i + n))).ahead (d ++ [(k, t, i)]) = O := by
  rw [drop_at h, line_cons, hb] at hI
  dsimp only at hI
  rw [ahead_ahead, ← drop_at h, List.drop_drop] at hI
  exact hI
theorem lin_loose (h : i < l.length) (hb : bite l[i] (l.drop (i + 1)) = .loose) (hI : (line i (l.drop i)).ahead d = O) : O = .bad l.length := by
  rw [drop_at h, line_cons, hb] at hI
  rw [← hI, List.length_drop]
  show Out.bad _ = _
  congr 1; omega
theorem lin_lost (h : i < l.length) (hb : bite l[i] (l.drop (i + 1)) = .lost) (hI : (line i (l.drop i)).ahead d = O) : O = .bad i := by
  rw [drop_at h, line_cons, hb] at hI
  rw [← hI]; rfl
theorem lin_done (h : ¬ i < l.length) (hI : (line i (l.drop i)).ahead d = O) : O = .fine d := by
  rw [List.drop_eq_nil_of_le (by omega), line_nil] at hI
  rw [← hI]; simp [Out.ahead]
/-- A word's text. -/
theorem part_eq (s : ByteArray) (i n : Nat) : s.extract i (i + n) = txt ((s.data.toList.drop i).take n) := by
  apply txt_of; rw [Lib.extract_data, Nat.add_sub_cancel_left]
theorem bite_word {c : UInt8} (hc : c.toNat ≠ 32) (h2 : isLetter c.toNat = true) : bite c l = .tok 1 (c :: l.takeWhile alnum) (1 + (l.takeWhile alnum).length) := by
  unfold bite; rw [if_neg hc, if_pos h2]
theorem bite_num {c : UInt8} (hc : c.toNat ≠ 32) (h2 : isLetter c.toNat = false) (h3 : isDigit c.toNat = true) : bite c l = .tok 2 (c :: l.takeWhile dig) (1 + (l.takeWhile dig).length) := by
  unfold bite; rw [if_neg hc, if_neg (by simp [h2]), if_pos h3]
/-- The word at i: where it ends, its text. -/
theorem word_at (s : ByteArray) {i : Nat} (h : i < s.data.toList.length) (hc : (s.data.toList[i]).toNat ≠ 32) (h2 : isLetter (s.data.toList[i]).toNat = true) :
    ∃ n, i + sp alnum (s.data.toList.drop i) = i + n ∧ 0 < n ∧ i + n ≤ s.size ∧ ∃ t, bite s.data.toList[i] (s.data.toList.drop (i + 1)) = .tok 1 t n ∧ s.extract i (i + n) = txt t := by
  have hb := bite_word (l := s.data.toList.drop (i + 1)) hc h2
  have hk := bite_kind hb
  rw [List.length_drop, ← size_data] at hk
  have h0 : i < s.size := h
  refine ⟨1 + (List.takeWhile alnum (s.data.toList.drop (i + 1))).length, ?_, by omega, by omega, _, hb, ?_⟩
  · rw [sp_step h (by unfold alnum; rw [h2]; rfl)]; simp [sp]; omega
  · rw [part_eq]
    congr 1
    rcases hk.2.2 with ⟨h1, _⟩ | ⟨h1, _⟩ | ⟨_, _, h1⟩
    · omega
    · omega
    · rw [drop_at h]; exact h1
theorem num_at (s : ByteArray) {i : Nat} (h : i < s.data.toList.length) (hc : (s.data.toList[i]).toNat ≠ 32) (h2 : isLetter (s.data.toList[i]).toNat = false) (h3 : isDigit (s.data.toList[i]).toNat = true) :
    ∃ n, i + sp dig (s.data.toList.drop i) = i + n ∧ 0 < n ∧ i + n ≤ s.size ∧ ∃ t, bite s.data.toList[i] (s.data.toList.drop (i + 1)) = .tok 2 t n ∧ s.extract i (i + n) = txt t := by
  have hb := bite_num (l := s.data.toList.drop (i + 1)) hc h2 h3
  have hk := bite_kind hb
  rw [List.length_drop, ← size_data] at hk
  have h0 : i < s.size := h
  refine ⟨1 + (List.takeWhile dig (s.data.toList.drop (i + 1))).length, ?_, by omega, by omega, _, hb, ?_⟩
  · rw [sp_step h (by unfold dig; exact h3)]; simp [sp]; omega
  · rw [part_eq]
    congr 1
    rcases hk.2.2 with ⟨h1, _⟩ | ⟨h1, _⟩ | ⟨_, _, h1⟩
    · omega
    · omega
    · rw [drop_at h]; exact h1
end
/-- The new token's block, and what its stores leave. -/
theorem tok_new (w : World) (a : Int) : ArrAt (w.alloc (.cells #[.int .i64 0, .string ⟨#[]⟩, .int .i64 a] 32)) w.heap.size 0 3 (triF (.int .i64 0) (.string ⟨#[]⟩) (.int .i64 a)) :=
  ArrAt.new w _ _ 3 _ (fun j hj => by
    match j, hj with
    | 0, _ => rfl
    | 1, _ => rfl
    | 2, _ => rfl)
theorem tok_put {w : World} {b : Nat} {x y z : Value} (h : ArrAt w b 0 3 (triF x y z)) (x' y' : Value) : ArrAt ((w.setCell ⟨b, 0, none⟩ x').setCell ⟨b, 1, none⟩ y') b 0 3 (triF x' y' z) :=
  ((h.set0 0 (by omega) x').set0 1 (by omega) y').congr (fun j hj => by
    match j, hj with
    | 0, _ => rfl
    | 1, _ => rfl
    | 2, _ => rfl)
end Go.Proofs.YtlpjoakdhblbaaaDoor
