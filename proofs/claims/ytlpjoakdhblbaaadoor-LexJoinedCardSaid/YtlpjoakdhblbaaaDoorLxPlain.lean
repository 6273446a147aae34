/- Tokens of a line, on bytes: what they are; two lines together; all but blanks is in some token. Plain. -/
import Derived.Test.YtlpjoakdhblbaaaDoorLxQuot
import Derived.Lib.Replace
namespace Go.Proofs.YtlpjoakdhblbaaaDoor
set_option linter.unusedVariables false
theorem repAll_eq {s old new : List UInt8} (hd : old ≠ new) : Lib.replaceAll s old new = Lib.replaceK old new (Lib.count s old) s := by
  unfold Lib.replaceAll Lib.replace Lib.replaceNum
  rw [if_neg (by simpa using hd), if_pos (Or.inl (by decide))]
theorem index_skip {old l : List UInt8} {b : UInt8} (hp : old.isPrefixOf (b :: l) = false) : Lib.index (b :: l) old = if Lib.index l old == -1 then -1 else Lib.index l old + 1 := by
  rw [Lib.index, hp]; simp
theorem rep_skip {old new l : List UInt8} {b : UInt8} (hne : old ≠ []) (hd : old ≠ new) (hp : old.isPrefixOf (b :: l) = false) : Lib.replaceAll (b :: l) old new = b :: Lib.replaceAll l old new := by
  rw [repAll_eq hd, repAll_eq hd]
  have hix := index_skip hp
  by_cases hm : Lib.index l old = -1
  · rw [Lib.count_miss hm, Lib.count_miss (by rw [hix, if_pos (beq_iff_eq.2 hm)])]; rfl
  · have hge := Lib.index_ge l old
    obtain ⟨j, hj⟩ : ∃ j : Nat, Lib.index l old = j := ⟨(Lib.index l old).toNat, by omega⟩
    have hix' : Lib.index (b :: l) old = ((j + 1 : Nat) : Int) := by rw [hix, if_neg (fun e => hm (beq_iff_eq.1 e)), hj]; omega
    have hdr : (b :: l).drop (j + 1 + old.length) = l.drop (j + old.length) := by rw [show j + 1 + old.length = (j + old.length) + 1 by omega, List.drop_succ_cons]
    rw [Lib.count_hit hne hj, Lib.count_hit hne hix', hdr, Nat.add_comm 1, Lib.replaceK_hit _ _ _ _ _ hj, Lib.replaceK_hit _ _ _ _ _ hix', hdr]
    simp
theorem rep_hit {old new l : List UInt8} (hne : old ≠ []) (hd : old ≠ new) : Lib.replaceAll (old ++ l) old new = new ++ Lib.replaceAll l old new := by
  rw [repAll_eq hd, repAll_eq hd]
  have hix : Lib.index (old ++ l) old = ((0 : Nat) : Int) := by
    cases old with
    | nil => exact absurd rfl hne
    | cons a t => rw [List.cons_append, Lib.index]; rw [if_pos (by rw [List.isPrefixOf_iff_prefix]; exact ⟨l, rfl⟩)]; rfl
  have hdr : (old ++ l).drop (0 + old.length) = l := by simp
  rw [Lib.count_hit hne hix, hdr, Nat.add_comm 1, Lib.replaceK_hit _ _ _ _ _ hix, hdr]
  simp
theorem rep_nil {old new : List UInt8} (hne : old ≠ []) (hd : old ≠ new) : Lib.replaceAll [] old new = [] := by
  rw [repAll_eq hd, Lib.count_miss (by cases old with | nil => exact absurd rfl hne | cons a t => rfl)]; rfl
/-- What stands between the quotes, each pair of quotes one. -/
theorem inside_text : ∀ (n : Nat) (l : List UInt8) (q : Nat), l.length ≤ n → qLen l = some q → Lib.replaceAll (l.take (q - 1)) [39, 39] [39] = qText l
  | _, [], q, _, h => by simp [qLen] at h
  | 0, c :: l, q, hn, h => by simp at hn
  | n + 1, c :: l, q, hn, h => by
    have hn' : l.length ≤ n := by simpa using hn
    rw [qLen_cons] at h
    rw [qText_cons]
    split at h
    · next hc =>
      obtain ⟨m, h1, rfl⟩ := Option.map_eq_some_iff.1 h
      have hm := qLen_le n l m hn' h1
      have ih := inside_text n l m hn' h1
      have e : m + 1 - 1 = (m - 1) + 1 := by omega
      have hp : ([39, 39] : List UInt8).isPrefixOf (c :: l.take (m - 1)) = false := by
        have : (39 == c) = false := by simp; intro e; apply hc; rw [← e]; rfl
        simp [List.isPrefixOf, this]
      rw [if_pos hc, e, List.take_succ_cons, rep_skip (by simp) (by simp) hp, ih]
    · next hc =>
      rw [if_neg hc]
      have hc' : c = 39 := by apply UInt8.toNat_inj.1; simpa using hc
      subst hc'
      split at h
      · simp at h; subst h; exact rep_nil (by simp) (by simp)
      · next d l' =>
        simp only [List.length_cons] at hn'
        split at h
        · next hd =>
          obtain ⟨m, h1, rfl⟩ := Option.map_eq_some_iff.1 h
          have hd' : d = 39 := by apply UInt8.toNat_inj.1; simpa using hd
          subst hd'
          have hm := qLen_le n l' m (by omega) h1
          have ih := inside_text n l' m (by omega) h1
          have e : m + 2 - 1 = (m - 1) + 1 + 1 := by omega
          rw [e, List.take_succ_cons, List.take_succ_cons]
          have := rep_hit (old := [39, 39]) (new := [39]) (l := l'.take (m - 1)) (by simp) (by simp)
          rw [show (39 :: 39 :: List.take (m - 1) l' : List UInt8) = [39, 39] ++ l'.take (m - 1) from rfl, this, ih]
          simp
        · next hd =>
          simp at h; subst h
          simp only [if_neg hd]
          exact rep_nil (by simp) (by simp)
/-- How long a text is when it is written with quotes. -/
theorem quote_len (t : List UInt8) : (Lib.replaceAll t [39] [39, 39]).length = t.length + t.count 39 := by
  induction t with
  | nil => rw [rep_nil (by simp) (by simp)]; rfl
  | cons c t ih =>
    by_cases hc : c = 39
    · subst hc
      have := rep_hit (old := [39]) (new := [39, 39]) (l := t) (by simp) (by simp)
      rw [show (39 :: t : List UInt8) = [39] ++ t from rfl, this, List.length_append, ih]
      simp; omega
    · have hp : ([39] : List UInt8).isPrefixOf (c :: t) = false := by
        have : (39 == c) = false := by simp; exact fun e => hc e.symm
        simp [List.isPrefixOf, this]
      rw [rep_skip (by simp) (by simp) hp, List.length_cons, ih, List.count_cons_of_ne (by simpa using hc), List.length_cons]
      omega
theorem qLen_text : ∀ (n : Nat) (l : List UInt8) (q : Nat), l.length ≤ n → qLen l = some q → q = 1 + (qText l).length + (qText l).count 39
  | _, [], q, _, h => by simp [qLen] at h
  | 0, c :: l, q, hn, h => by simp at hn
  | n + 1, c :: l, q, hn, h => by
    have hn' : l.length ≤ n := by simpa using hn
    rw [qLen_cons] at h
    rw [qText_cons]
    split at h
    · next hc =>
      obtain ⟨m, h1, rfl⟩ := Option.map_eq_some_iff.1 h
      have ih := qLen_text n l m hn' h1
      have hc' : c ≠ 39 := by intro e; subst e; exact hc rfl
      rw [if_pos hc, List.length_cons, List.count_cons_of_ne (by simpa using hc')]; omega
    · next hc =>
      rw [if_neg hc]
      split at h
      · simp at h; subst h; rfl
      · next d l' =>
        simp only [List.length_cons] at hn'
        split at h
        · next hd =>
          obtain ⟨m, h1, rfl⟩ := Option.map_eq_some_iff.1 h
          have hd' : d = 39 := by apply UInt8.toNat_inj.1; simpa using hd
          subst hd'
          have ih := qLen_text n l' m (by omega) h1
          simp; omega
        · next hd => simp at h; subst h; simp [if_neg hd]
def alnum (c : UInt8) : Bool := isLetter c.toNat || isDigit c.toNat
def dig (c : UInt8) : Bool := isDigit c.toNat
def signs : List Nat := [61, 63, 38, 43, 45, 42, 47, 37, 40, 41, 60, 62, 44, 58, 36]
/-- What a byte and what stands behind it begin with. -/
inductive Bite
  | blank
  | lost
  | loose
  | tok (k : Nat) (t : List UInt8) (n : Nat)
def equalsNext : List UInt8 → Bool
  | d :: _ => d.toNat == 61
  | [] => false
def bite (c : UInt8) (l : List UInt8) : Bite :=
  if c.toNat = 32 then .blank
  else if isLetter c.toNat = true then .tok 1 (c :: l.takeWhile alnum) (1 + (l.takeWhile alnum).length)
  else if isDigit c.toNat = true then .tok 2 (c :: l.takeWhile dig) (1 + (l.takeWhile dig).length)
  else if c.toNat = 39 then match qLen l with | none => .loose | some q => .tok 3 (qText l) (1 + q)
  else if c.toNat = 91 then match bLen (l.length + 1) l with | none => .loose | some q => .tok 4 (l.take (q - 1)) (1 + q)
  else if c.toNat = 58 ∧ equalsNext l = true then .tok 5 [58, 61] 2
  else if signs.contains c.toNat = true then .tok 5 [c] 1
  else .lost
abbrev Tok := Nat × List UInt8 × Nat
inductive Out
  | bad (a : Nat)
  | fine (l : List Tok)
def Out.ahead (d : List Tok) : Out → Out
  | .bad a => .bad a
  | .fine l => .fine (d ++ l)
theorem ahead_nil (o : Out) : o.ahead [] = o := by cases o <;> rfl
theorem ahead_ahead (o : Out) (a b : List Tok) : (o.ahead b).ahead a = o.ahead (a ++ b) := by cases o <;> simp [Out.ahead]
def toks : Nat → Nat → List UInt8 → Out
  | 0, _, _ => .fine []
  | _ + 1, _, [] => .fine []
  | k + 1, i, c :: l => match bite c l with
    | .blank => toks k (i + 1) l
    | .lost => .bad i
    | .loose => .bad (i + l.length + 1)
    | .tok kd t n => (toks k (i + n) ((c :: l).drop n)).ahead [(kd, t, i)]
theorem takeWhile_len (p : UInt8 → Bool) (l : List UInt8) : (l.takeWhile p).length ≤ l.length := by
  induction l with
  | nil => simp
  | cons a l ih => rw [List.takeWhile_cons]; split <;> simp <;> omega
/-- What a piece is. -/
theorem bite_kind {c : UInt8} {l : List UInt8} {k n : Nat} {t : List UInt8} (h : bite c l = .tok k t n) :
    0 < n ∧ n ≤ l.length + 1 ∧ ((k = 3 ∧ n = 2 + t.length + t.count 39 ∧ c.toNat = 39) ∨ (k = 4 ∧ n = t.length + 2 ∧ c.toNat = 91) ∨ ((k = 1 ∨ k = 2 ∨ k = 5) ∧ n = t.length ∧ (c :: l).take n = t)) := by
  have tw : ∀ p : UInt8 → Bool, (c :: l).take (1 + (l.takeWhile p).length) = c :: l.takeWhile p := by
    intro p
    rw [Nat.add_comm, List.take_succ_cons]
    congr 1
    exact (List.prefix_iff_eq_take.1 (List.takeWhile_prefix p)).symm
  unfold bite at h
  split at h
  · simp at h
  · split at h
    · simp only [Bite.tok.injEq] at h
      obtain ⟨rfl, rfl, rfl⟩ := h
      have := takeWhile_len alnum l
      exact ⟨by omega, by omega, Or.inr (Or.inr ⟨Or.inl rfl, by simp; omega, tw _⟩)⟩
    · split at h
      · simp only [Bite.tok.injEq] at h
        obtain ⟨rfl, rfl, rfl⟩ := h
        have := takeWhile_len dig l
        exact ⟨by omega, by omega, Or.inr (Or.inr ⟨Or.inr (Or.inl rfl), by simp; omega, tw _⟩)⟩
      · split at h
        · next hc =>
          cases hq : qLen l with
          | none => rw [hq] at h; simp at h
          | some q =>
            rw [hq] at h
            simp only [Bite.tok.injEq] at h
            obtain ⟨rfl, rfl, rfl⟩ := h
            have h1 := qLen_le l.length l q (Nat.le_refl _) hq
            have h2 := qLen_text l.length l q (Nat.le_refl _) hq
            exact ⟨by omega, by omega, Or.inl ⟨rfl, by omega, hc⟩⟩
        · split at h
          · next hc =>
            cases hq : bLen (l.length + 1) l with
            | none => rw [hq] at h; simp at h
            | some q =>
              rw [hq] at h
              simp only [Bite.tok.injEq] at h
              obtain ⟨rfl, rfl, rfl⟩ := h
              have h1 := bLen_le _ l q hq
              exact ⟨by omega, by omega, Or.inr (Or.inl ⟨rfl, by rw [List.length_take]; omega, hc⟩)⟩
          · split at h
            · next hc =>
              simp only [Bite.tok.injEq] at h
              obtain ⟨rfl, rfl, rfl⟩ := h
              obtain ⟨h1, h2⟩ := hc
              cases l with
              | nil => simp [equalsNext] at h2
              | cons d l' =>
                have h1' : c = 58 := UInt8.toNat_inj.1 h1
                have h2' : d = 61 := UInt8.toNat_inj.1 (by simpa [equalsNext] using h2)
                subst h1'; subst h2'
                exact ⟨by omega, by simp, Or.inr (Or.inr ⟨Or.inr (Or.inr rfl), rfl, rfl⟩)⟩
            · split at h
              · simp only [Bite.tok.injEq] at h
                obtain ⟨rfl, rfl, rfl⟩ := h
                exact ⟨by omega, by omega, Or.inr (Or.inr ⟨Or.inr (Or.inr rfl), rfl, rfl⟩)⟩
              · simp at h
theorem toks_fuel : ∀ (k m i : Nat) (l : List UInt8), l.length < k → l.length < m → toks k i l = toks m i l
  | 0, _, _, _, h, _ => by omega
  | _ + 1, 0, _, _, _, h => by omega
  | k + 1, m + 1, i, [], _, _ => rfl
  | k + 1, m + 1, i, c :: l, h1, h2 => by
    simp only [List.length_cons] at h1 h2
    rw [toks, toks]
    cases hb : bite c l with
    | blank => exact toks_fuel k m _ l (by omega) (by omega)
    | lost => rfl
    | loose => rfl
    | tok kd t n =>
      have := bite_kind hb
      dsimp only
      rw [toks_fuel k m _ _ (by rw [List.length_drop, List.length_cons]; omega) (by rw [List.length_drop, List.length_cons]; omega)]
/-- The tokens of what stands at i. -/
def line (i : Nat) (l : List UInt8) : Out := toks (l.length + 1) i l
theorem line_nil (i : Nat) : line i [] = .fine [] := rfl
theorem line_cons (i : Nat) (c : UInt8) (l : List UInt8) : line i (c :: l) = match bite c l with
    | .blank => line (i + 1) l
    | .lost => .bad i
    | .loose => .bad (i + l.length + 1)
    | .tok kd t n => (line (i + n) ((c :: l).drop n)).ahead [(kd, t, i)] := by
  unfold line
  rw [List.length_cons, toks]
  cases hb : bite c l with
  | blank => rfl
  | lost => rfl
  | loose => rfl
  | tok kd t n =>
    have := bite_kind hb
    dsimp only
    rw [toks_fuel (l.length + 1) _ _ _ (by rw [List.length_drop, List.length_cons]; omega) (Nat.lt_succ_self _)]
theorem line_bad : ∀ (k i : Nat) (l : List UInt8) (a : Nat), l.length ≤ k → line i l = .bad a → i ≤ a ∧ a ≤ i + l.length
  | _, i, [], a, _, h => by rw [line_nil] at h; simp at h
  | 0, i, c :: l, a, hk, h => by simp at hk
  | k + 1, i, c :: l, a, hk, h => by
    simp only [List.length_cons] at hk ⊢
    rw [line_cons] at h
    cases hb : bite c l with
    | blank =>
      rw [hb] at h
      have := line_bad k (i + 1) l a (by omega) h
      omega
    | lost => rw [hb] at h; simp at h; omega
    | loose => rw [hb] at h; simp at h; omega
    | tok kd t n =>
      rw [hb] at h
      dsimp only at h
      have hn := bite_kind hb
      cases ho : line (i + n) ((c :: l).drop n) with
      | fine x => rw [ho] at h; simp [Out.ahead] at h
      | bad b =>
        rw [ho] at h
        simp only [Out.ahead, Out.bad.injEq] at h
        subst h
        have := line_bad k (i + n) _ b (by rw [List.length_drop, List.length_cons]; omega) ho
        rw [List.length_drop, List.length_cons] at this
        omega
/-- Moved. -/
def shifted (m : Nat) (x : Tok) : Tok := (x.1, x.2.1, x.2.2 + m)
def Out.moved (m : Nat) : Out → Out
  | .bad a => .bad (a + m)
  | .fine l => .fine (l.map (shifted m))
theorem moved_ahead (m : Nat) (x : Tok) (o : Out) : (o.ahead [x]).moved m = (o.moved m).ahead [shifted m x] := by cases o <;> simp [Out.ahead, Out.moved]
theorem line_move (m : Nat) : ∀ (k i : Nat) (l : List UInt8), l.length ≤ k → line (i + m) l = (line i l).moved m
  | _, i, [], _ => rfl
  | 0, i, c :: l, hk => by simp at hk
  | k + 1, i, c :: l, hk => by
    simp only [List.length_cons] at hk
    rw [line_cons, line_cons]
    cases hb : bite c l with
    | blank =>
      dsimp only
      rw [show i + m + 1 = i + 1 + m by omega]
      exact line_move m k (i + 1) l (by omega)
    | lost => rfl
    | loose => dsimp only [Out.moved]; congr 1; omega
    | tok kd t n =>
      have hn := bite_kind hb
      dsimp only
      rw [moved_ahead, ← line_move m k (i + n) _ (by rw [List.length_drop, List.length_cons]; omega), show i + n + m = i + m + n by omega]
      rfl
/-- A blank behind ends each piece. -/
theorem takeWhile_blank (p : UInt8 → Bool) (h : p 32 = false) (l u : List UInt8) : (l ++ 32 :: u).takeWhile p = l.takeWhile p := by
  induction l with
  | nil => simp [h]
  | cons a l ih => rw [List.cons_append, List.takeWhile_cons, List.takeWhile_cons, ih]
theorem qLen_blank (u : List UInt8) : ∀ (n : Nat) (l : List UInt8) (q : Nat), l.length ≤ n → qLen l = some q → qLen (l ++ 32 :: u) = some q ∧ qText (l ++ 32 :: u) = qText l
  | _, [], q, _, h => by simp [qLen] at h
  | 0, c :: l, q, hn, h => by simp at hn
  | n + 1, c :: l, q, hn, h => by
    have hn' : l.length ≤ n := by simpa using hn
    rw [qLen_cons] at h
    rw [List.cons_append, qLen_cons, qText_cons, qText_cons]
    split at h
    · next hc =>
      obtain ⟨m, h1, rfl⟩ := Option.map_eq_some_iff.1 h
      obtain ⟨h2, h3⟩ := qLen_blank u n l m hn' h1
      rw [if_pos hc, if_pos hc, if_pos hc, h2, h3]
      exact ⟨rfl, rfl⟩
    · next hc =>
      rw [if_neg hc, if_neg hc, if_neg hc]
      split at h
      · simp at h; subst h
        exact ⟨rfl, rfl⟩
      · next d l' =>
        simp only [List.length_cons] at hn'
        dsimp only [List.cons_append]
        split at h
        · next hd =>
          obtain ⟨m, h1, rfl⟩ := Option.map_eq_some_iff.1 h
          obtain ⟨h2, h3⟩ := qLen_blank u n l' m (by omega) h1
          rw [if_pos hd, if_pos hd, if_pos hd, h2, h3]
          exact ⟨rfl, rfl⟩
        · next hd =>
          rw [if_neg hd, if_neg hd, if_neg hd]
          exact ⟨h, rfl⟩
theorem bLen_blank (u : List UInt8) : ∀ (k m : Nat) (l : List UInt8) (q : Nat), l.length < k → (l ++ 32 :: u).length < m → bLen k l = some q → bLen m (l ++ 32 :: u) = some q
  | 0, _, _, _, h, _, _ => by omega
  | _ + 1, 0, _, _, _, h, _ => by omega
  | k + 1, m + 1, [], q, _, _, h => by simp [bLen] at h
  | k + 1, m + 1, c :: l, q, h1, h2, h => by
    simp only [List.length_cons, List.cons_append] at h1 h2
    rw [bLen] at h
    rw [List.cons_append, bLen]
    split at h
    · next hc => rw [if_pos hc]; exact h
    · next hc =>
      rw [if_neg hc]
      split at h
      · next hd =>
        rw [if_pos hd]
        cases hq : qLen l with
        | none => rw [hq] at h; simp at h
        | some q' =>
          rw [hq] at h
          obtain ⟨r, h3, rfl⟩ := Option.map_eq_some_iff.1 h
          have h4 := qLen_le l.length l q' (Nat.le_refl _) hq
          rw [(qLen_blank u l.length l q' (Nat.le_refl _) hq).1]
          dsimp only
          have e : (l ++ 32 :: u).drop q' = l.drop q' ++ 32 :: u := List.drop_append_of_le_length h4.2
          rw [e, bLen_blank u k m (l.drop q') r (by rw [List.length_drop]; omega) (by simp only [List.length_append, List.length_drop, List.length_cons] at h2 ⊢; omega) h3]
          rfl
      · next hd =>
        rw [if_neg hd]
        obtain ⟨r, h3, rfl⟩ := Option.map_eq_some_iff.1 h
        rw [bLen_blank u k m l r (by omega) (by omega) h3]
        rfl
theorem equals_blank (l u : List UInt8) : equalsNext (l ++ 32 :: u) = equalsNext l := by cases l <;> rfl
theorem bite_blank {c : UInt8} {l : List UInt8} (u : List UInt8) (h : bite c l ≠ .loose) : bite c (l ++ 32 :: u) = bite c l := by
  unfold bite at h ⊢
  by_cases h1 : c.toNat = 32
  · rw [if_pos h1, if_pos h1]
  rw [if_neg h1] at h ⊢
  rw [if_neg h1]
  by_cases h2 : isLetter c.toNat = true
  · rw [if_pos h2, if_pos h2, takeWhile_blank _ (by decide)]
  rw [if_neg h2] at h ⊢
  rw [if_neg h2]
  by_cases h3 : isDigit c.toNat = true
  · rw [if_pos h3, if_pos h3, takeWhile_blank _ (by decide)]
  rw [if_neg h3] at h ⊢
  rw [if_neg h3]
  by_cases h4 : c.toNat = 39
  · rw [if_pos h4] at h ⊢
    rw [if_pos h4]
    cases hq : qLen l with
    | none => rw [hq] at h; exact absurd rfl h
    | some q => obtain ⟨k1, k2⟩ := qLen_blank u l.length l q (Nat.le_refl _) hq; rw [k1, k2]
  rw [if_neg h4] at h ⊢
  rw [if_neg h4]
  by_cases h5 : c.toNat = 91
  · rw [if_pos h5] at h ⊢
    rw [if_pos h5]
    cases hq : bLen (l.length + 1) l with
    | none => rw [hq] at h; exact absurd rfl h
    | some q =>
      have hl := bLen_le _ l q hq
      rw [bLen_blank u (l.length + 1) ((l ++ 32 :: u).length + 1) l q (by omega) (by omega) hq]
      dsimp only
      rw [List.take_append_of_le_length (by omega)]
  rw [if_neg h5] at h ⊢
  rw [if_neg h5, equals_blank]
theorem line_blank (u : List UInt8) : ∀ (k i : Nat) (l : List UInt8) (ts : List Tok), l.length ≤ k → line i l = .fine ts → line i (l ++ 32 :: u) = (line (i + l.length + 1) u).ahead ts
  | _, i, [], ts, _, h => by
    rw [line_nil] at h
    simp at h; subst h
    rw [List.nil_append, line_cons, ahead_nil]
    rfl
  | 0, i, c :: l, ts, hk, h => by simp at hk
  | k + 1, i, c :: l, ts, hk, h => by
    simp only [List.length_cons] at hk ⊢
    rw [line_cons] at h
    rw [List.cons_append, line_cons]
    have hb2 : bite c (l ++ 32 :: u) = bite c l := bite_blank u (by intro e; rw [e] at h; simp at h)
    rw [hb2]
    cases hb : bite c l with
    | blank =>
      rw [hb] at h
      dsimp only at h ⊢
      rw [line_blank u k (i + 1) l ts (by omega) h, show i + 1 + l.length + 1 = i + (l.length + 1) + 1 by omega]
    | lost => rw [hb] at h; simp at h
    | loose => rw [hb] at h; simp at h
    | tok kd t n =>
      rw [hb] at h
      dsimp only at h ⊢
      have hn := bite_kind hb
      cases ho : line (i + n) ((c :: l).drop n) with
      | bad b => rw [ho] at h; simp [Out.ahead] at h
      | fine x =>
        rw [ho] at h
        simp only [Out.ahead, Out.fine.injEq] at h
        subst h
        have e : (c :: (l ++ 32 :: u)).drop n = (c :: l).drop n ++ 32 :: u := by rw [← List.cons_append, List.drop_append_of_le_length (by simp; omega)]
        have hl : ((c :: l).drop n).length = l.length + 1 - n := by rw [List.length_drop, List.length_cons]
        rw [e, line_blank u k (i + n) _ x (by omega) ho, ahead_ahead, hl, show i + n + (l.length + 1 - n) + 1 = i + (l.length + 1) + 1 by omega]
/-- How many bytes a token takes up. -/
def tokN (x : Tok) : Nat := if x.1 = 3 then 2 + x.2.1.length + x.2.1.count 39 else if x.1 = 4 then x.2.1.length + 2 else x.2.1.length
def KindOk (s : List UInt8) (x : Tok) : Prop :=
  (x.1 = 3 ∧ (s.getD x.2.2 0).toNat = 39) ∨ (x.1 = 4 ∧ (s.getD x.2.2 0).toNat = 91) ∨ ((x.1 = 1 ∨ x.1 = 2 ∨ x.1 = 5) ∧ 0 < x.2.1.length ∧ x.2.2 + x.2.1.length ≤ s.length ∧ (s.drop x.2.2).take x.2.1.length = x.2.1)
/-- All from e on but blanks is in some token. -/
def Cov (s : List UInt8) : Nat → List Tok → Prop
  | e, [] => ∀ i, e ≤ i → i < s.length → (s.getD i 0).toNat = 32
  | e, x :: ts => e ≤ x.2.2 ∧ x.2.2 < s.length ∧ (∀ i, e ≤ i → i < x.2.2 → (s.getD i 0).toNat = 32) ∧ KindOk s x ∧ x.2.2 + tokN x ≤ s.length ∧ Cov s (x.2.2 + tokN x) ts
theorem line_cov (s : List UInt8) : ∀ (k e i : Nat) (ts : List Tok), s.length ≤ i + k → e ≤ i → i ≤ s.length → (∀ j, e ≤ j → j < i → (s.getD j 0).toNat = 32) → line i (s.drop i) = .fine ts → Cov s e ts
  | k, e, i, ts, hk, he, hi, hbl, h => by
    by_cases hlt : i < s.length
    · rw [drop_at hlt, line_cons] at h
      have hg : s.getD i 0 = s[i] := by simp [List.getD_eq_getElem?_getD, hlt]
      match k, hk with
      | 0, hk => omega
      | k + 1, hk =>
      cases hb : bite s[i] (s.drop (i + 1)) with
      | blank =>
        rw [hb] at h
        dsimp only at h
        refine line_cov s k e (i + 1) ts (by omega) (by omega) (by omega) (fun j h1 h2 => ?_) h
        by_cases hj : j = i
        · subst hj
          rw [hg]
          unfold bite at hb
          split at hb
          · assumption
          · repeat' split at hb
            all_goals simp at hb
        · exact hbl j h1 (by omega)
      | lost => rw [hb] at h; simp at h
      | loose => rw [hb] at h; simp at h
      | tok kd t n =>
        rw [hb] at h
        dsimp only at h
        have hn := bite_kind hb
        rw [List.length_drop] at hn
        rw [← drop_at hlt] at h hn
        rw [List.drop_drop] at h
        cases ho : line (i + n) (s.drop (i + n)) with
        | bad b => rw [ho] at h; simp [Out.ahead] at h
        | fine x =>
          rw [ho] at h
          simp only [Out.ahead, Out.fine.injEq] at h
          subst h
          have hN : tokN (kd, t, i) = n := by
            unfold tokN
            rcases hn.2.2 with ⟨rfl, h1, _⟩ | ⟨rfl, h1, _⟩ | ⟨h0, h1, _⟩
            · simp [h1]
            · simp [h1]
            · rw [if_neg (by show ¬ kd = 3; omega), if_neg (by show ¬ kd = 4; omega)]; exact h1.symm
          have hrest := line_cov s k (i + n) (i + n) x (by omega) (Nat.le_refl _) (by omega) (fun j h1 h2 => by omega) ho
          refine ⟨he, hlt, hbl, ?_, by rw [hN]; show i + n ≤ s.length; omega, by rw [hN]; exact hrest⟩
          rcases hn.2.2 with ⟨rfl, h1, h2⟩ | ⟨rfl, h1, h2⟩ | ⟨h0, h1, h2⟩
          · exact Or.inl ⟨rfl, by rw [hg]; exact h2⟩
          · exact Or.inr (Or.inl ⟨rfl, by rw [hg]; exact h2⟩)
          · exact Or.inr (Or.inr ⟨h0, by show 0 < t.length; omega, by show i + t.length ≤ s.length; omega, by rw [← h1]; exact h2⟩)
    · have hd : s.drop i = [] := List.drop_eq_nil_of_le (by omega)
      rw [hd, line_nil] at h
      simp at h; subst h
      exact fun j h1 h2 => hbl j h1 (by omega)
end Go.Proofs.YtlpjoakdhblbaaaDoor
