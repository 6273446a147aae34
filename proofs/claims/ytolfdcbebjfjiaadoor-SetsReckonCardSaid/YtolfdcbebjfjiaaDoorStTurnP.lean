/- What is written is read: in plain words. No program. No condition. -/
import Derived.Test.YtolfdcbebjfjiaaDoorStReadW
namespace Go.Proofs.YtolfdcbebjfjiaaDoor
set_option linter.unusedVariables false
theorem spell_head {b x : Nat} (h : (spellL b).head? = some x) : x ≠ 45 ∧ x ≠ 94 := by
  unfold spellL at h
  split at h
  · next hp =>
    simp at h; subst h
    unfold plainB at hp
    simp at hp
    omega
  · simp at h; subst h; omega
theorem spell_ne (b : Nat) : spellL b ≠ [] := by unfold spellL; split <;> simp
theorem spell_pos (b : Nat) : 0 < (spellL b).length := List.length_pos_iff.2 (spell_ne b)
theorem head_append {α : Type} {l m : List α} (h : l ≠ []) : (l ++ m).head? = l.head? := by
  cases l with
  | nil => exact absurd rfl h
  | cons a l => rfl
theorem prF_head {f : Nat → Bool} : ∀ n b x, (prF f n b).head? = some x → x ≠ 45 ∧ x ≠ 94
  | 0, b, x, h => by simp [prF] at h
  | n + 1, b, x, h => by
    rw [prF] at h
    split at h
    · split at h
      · unfold segL at h
        rw [List.append_assoc, head_append (spell_ne b)] at h
        exact spell_head h
      · exact prF_head n _ x h
    · simp at h
theorem getD_at {l pre m : List Nat} {x : Nat} (h : l = pre ++ x :: m) : l.getD pre.length 0 = x := by
  subst h
  simp [List.getD_eq_getElem?_getD]
theorem getD_mid {l pre s m : List Nat} (h : l = pre ++ (s ++ m)) (i : Nat) (hi : i < s.length) : l.getD (pre.length + i) 0 = s[i] := by
  subst h
  rw [List.getD_eq_getElem?_getD, List.getElem?_append_right (by omega), Nat.add_sub_cancel_left, List.getElem?_append_left hi, List.getElem?_eq_getElem hi]
  rfl
/-- One byte that was written is read. -/
theorem one_at {l pre m : List Nat} {b : Nat} (hb : b < 256) (h : l = pre ++ (spellL b ++ m)) : oneR (fun i => l.getD i 0) l.length pre.length = (some b, (pre ++ spellL b).length) := by
  rw [List.length_append]
  refine oneR_spell hb ?_ fun i hi => getD_mid h i hi
  rw [h]; simp <;> omega
/-- What stands behind is no dash. -/
theorem no_dash {l pre m : List Nat} (h : l = pre ++ m) (hm : ∀ x, m.head? = some x → x ≠ 45) : ¬ (pre.length < l.length ∧ l.getD pre.length 0 = 45) := by
  rintro ⟨h1, h2⟩
  cases m with
  | nil => rw [h] at h1; simp at h1
  | cons x m => rw [getD_at h] at h2; exact hm x rfl h2
theorem rng_one (g f : Nat → Bool) (b c : Nat) (h : f b = true) (hb : b < 256) : (rng g b b c || (decide (b + 1 ≤ c) && (decide (c < 256) && f c))) = (g c || (decide (b ≤ c) && (decide (c < 256) && f c))) := by
  unfold rng
  rw [Bool.or_assoc]
  congr 1
  by_cases e : c = b
  · subst e; simp [h, hb]
  · have h1 : (decide (b ≤ c) && decide (c ≤ b)) = false := by simp <;> omega
    have h2 : decide (b + 1 ≤ c) = decide (b ≤ c) := decide_eq_decide.2 (by omega)
    rw [h1, h2, Bool.false_or]
theorem rng_run (g f : Nat → Bool) (b L c : Nat) (hbL : b ≤ L) (hL : L < 256) (h : ∀ j, b ≤ j → j ≤ L → f j = true) : (rng g b L c || (decide (L + 1 ≤ c) && (decide (c < 256) && f c))) = (g c || (decide (b ≤ c) && (decide (c < 256) && f c))) := by
  unfold rng
  rw [Bool.or_assoc]
  congr 1
  by_cases e : b ≤ c ∧ c ≤ L
  · have := h c e.1 e.2
    have h1 : (decide (b ≤ c) && decide (c ≤ L)) = true := by simp <;> omega
    have h2 : decide (b ≤ c) = true := by simp <;> omega
    have h3 : decide (c < 256) = true := by simp <;> omega
    rw [h1, h2, h3, this]; rfl
  · have h1 : (decide (b ≤ c) && decide (c ≤ L)) = false := by simp <;> omega
    have h2 : decide (L + 1 ≤ c) = decide (b ≤ c) := decide_eq_decide.2 (by omega)
    rw [h1, h2, Bool.false_or]
theorem loop_print (f : Nat → Bool) : ∀ (m b : Nat), 256 - b ≤ m → ∀ (l pre : List Nat) (k : Nat) (g : Nat → Bool), l = pre ++ pr f b → l.length - pre.length ≤ k →
    ∃ g', loopR (fun i => l.getD i 0) l.length k pre.length g = (0, 0, g') ∧ ∀ c, g' c = (g c || (decide (b ≤ c) && (decide (c < 256) && f c))) := by
  intro m
  induction m with
  | zero =>
    intro b hm l pre k g hl hk
    rw [pr_end f b (by omega), List.append_nil] at hl
    refine ⟨g, loopR_end (by rw [hl]; exact Nat.le_refl _), fun c => ?_⟩
    have : (decide (b ≤ c) && (decide (c < 256) && f c)) = false := by
      by_cases h : b ≤ c
      · have : decide (c < 256) = false := by simp <;> omega
        simp [this]
      · simp [h]
    rw [this, Bool.or_false]
  | succ m ih =>
    intro b hm l pre k g hl hk
    by_cases hb : b < 256
    · cases hf : f b with
      | false =>
        rw [pr_out hb hf] at hl
        obtain ⟨g', h1, h2⟩ := ih (b + 1) (by omega) l pre k g hl hk
        refine ⟨g', h1, fun c => ?_⟩
        rw [h2]
        congr 1
        by_cases e : c = b
        · subst e; simp [hf]
        · rw [decide_eq_decide.2 (show b + 1 ≤ c ↔ b ≤ c by omega)]
      | true =>
        have hL0 := last_ge f b
        have hL1 := last_le f b (by omega)
        have hLa : ∀ j, b ≤ j → j ≤ last f b → f j = true := fun j h1 h2 => last_all hf h1 h2
        rw [pr_in hb hf] at hl
        generalize last f b = L at hl hL0 hL1 hLa
        have hhd : ∀ x, (pr f (L + 1)).head? = some x → x ≠ 45 := fun x hx => (prF_head 256 (L + 1) x hx).1
        rcases (show L = b ∨ L = b + 1 ∨ b + 1 < L by omega) with e | e | e
        · subst e
          have hs : segL L L = spellL L := by unfold segL; rw [if_neg (by omega), if_neg (by omega)]; simp
          rw [hs] at hl
          have hin : pre.length < l.length := by rw [hl]; have := spell_pos L; simp <;> omega
          obtain ⟨k, rfl⟩ : ∃ k', k = k' + 1 := ⟨k - 1, by omega⟩
          have h1 := one_at hb hl
          have hl2 : l = (pre ++ spellL L) ++ pr f (L + 1) := by rw [hl, List.append_assoc]
          rw [loopR_lone hin h1 (no_dash hl2 hhd)]
          obtain ⟨g', h2, h3⟩ := ih (L + 1) (by omega) l _ k (rng g L L) hl2 (by have := spell_pos L; rw [List.length_append]; omega)
          exact ⟨g', h2, fun c => by rw [h3]; exact rng_one g f L c hf hb⟩
        · subst e
          have hs : segL b (b + 1) = spellL b ++ spellL (b + 1) := by unfold segL; rw [if_neg (by omega), if_pos (by omega)]; simp
          rw [hs, List.append_assoc] at hl
          have hin : pre.length < l.length := by rw [hl]; have := spell_pos b; simp <;> omega
          have h1 := one_at hb hl
          have hl2 : l = (pre ++ spellL b) ++ (spellL (b + 1) ++ pr f (b + 1 + 1)) := by rw [hl, List.append_assoc]
          have hin2 : (pre ++ spellL b).length < l.length := by rw [hl2]; have := spell_pos (b + 1); simp <;> omega
          obtain ⟨k, rfl⟩ : ∃ k', k = k' + 1 + 1 := ⟨k - 2, by have := spell_pos b; rw [List.length_append] at hin2; omega⟩
          rw [loopR_lone hin h1 (no_dash hl2 fun x hx => by rw [head_append (spell_ne _)] at hx; exact (spell_head hx).1)]
          have h4 := one_at (b := b + 1) (by omega) hl2
          have hl3 : l = ((pre ++ spellL b) ++ spellL (b + 1)) ++ pr f (b + 1 + 1) := by rw [hl2, List.append_assoc (pre ++ spellL b)]
          rw [loopR_lone hin2 h4 (no_dash hl3 hhd)]
          obtain ⟨g', h2, h3⟩ := ih (b + 1 + 1) (by omega) l _ k _ hl3 (by have := spell_pos b; have := spell_pos (b + 1); rw [List.length_append, List.length_append]; omega)
          exact ⟨g', h2, fun c => by rw [h3, rng_one (rng g b b) f (b + 1) c (hLa (b + 1) (by omega) (by omega)) (by omega)]; exact rng_one g f b c hf hb⟩
        · have hs : segL b L = spellL b ++ (45 :: spellL L) := by unfold segL; rw [if_pos e, if_pos (by omega)]; simp
          rw [hs, List.append_assoc] at hl
          have hin : pre.length < l.length := by rw [hl]; have := spell_pos b; simp <;> omega
          have h1 := one_at hb hl
          have hl2 : l = (pre ++ spellL b) ++ 45 :: (spellL L ++ pr f (L + 1)) := by rw [hl, List.append_assoc]; rfl
          have hin2 : (pre ++ spellL b).length < l.length := by rw [hl2]; simp <;> omega
          have hl3 : l = ((pre ++ spellL b) ++ [45]) ++ (spellL L ++ pr f (L + 1)) := by rw [hl2, List.append_assoc (pre ++ spellL b)]; rfl
          have h4 := one_at (b := L) (by omega) hl3
          have e45 : ((pre ++ spellL b) ++ [45]).length = (pre ++ spellL b).length + 1 := by simp [Nat.add_assoc]
          rw [e45] at h4
          obtain ⟨k, rfl⟩ : ∃ k', k = k' + 1 := ⟨k - 1, by omega⟩
          rw [loopR_run hin h1 ⟨hin2, getD_at hl2⟩ h4 (by omega)]
          have hl4 : l = (((pre ++ spellL b) ++ [45]) ++ spellL L) ++ pr f (L + 1) := by rw [hl3, List.append_assoc ((pre ++ spellL b) ++ [45])]
          obtain ⟨g', h2, h3⟩ := ih (L + 1) (by omega) l _ k _ hl4 (by have := spell_pos b; simp only [List.length_append, List.length_singleton]; omega)
          exact ⟨g', h2, fun c => by rw [h3]; exact rng_run g f b L c (by omega) (by omega) hLa⟩
    · rw [pr_end f b (by omega), List.append_nil] at hl
      refine ⟨g, loopR_end (by rw [hl]; exact Nat.le_refl _), fun c => ?_⟩
      have : (decide (b ≤ c) && (decide (c < 256) && f c)) = false := by
        by_cases h : b ≤ c
        · have : decide (c < 256) = false := by simp <;> omega
          simp [this]
        · simp [h]
      rw [this, Bool.or_false]
/-- A text of such bytes. -/
def txt (l : List Nat) : ByteArray := ⟨(bytesL l).toArray⟩
theorem txt_size (l : List Nat) : (txt l).size = l.length := by
  show (bytesL l).toArray.size = _
  simp [bytesL]
theorem byteAt_txt {l : List Nat} (h : ∀ x ∈ l, x < 256) : byteAt (txt l) = fun i => l.getD i 0 := by
  funext i
  unfold byteAt txt bytesL
  rw [List.getD_eq_getElem?_getD, List.getD_eq_getElem?_getD]
  simp only [List.getElem?_map]
  cases hx : l[i]? with
  | none => simp
  | some x =>
    have := h x (List.mem_of_getElem? hx)
    simp
    omega
theorem pr_all (f : Nat → Bool) : ∀ x ∈ pr f 0, x < 256 := fun x hx => prF_lt 256 0 x hx
/-- What is printed is read. -/
theorem read_print (f : Nat → Bool) : ∃ g, readR (txt (pr f 0)) = (0, 0, g) ∧ ∀ c, c < 256 → g c = f c := by
  have hn : notR (txt (pr f 0)) = false := by
    unfold notR
    rw [byteAt_txt (pr_all f), txt_size]
    cases h : pr f 0 with
    | nil => rfl
    | cons x l =>
      have := (prF_head (f := f) 256 0 x (by show (pr f 0).head? = _; rw [h]; rfl)).2
      simp [this]
  obtain ⟨g, h1, h2⟩ := loop_print f 256 0 (by omega) (pr f 0) [] (pr f 0).length emptyS rfl (by simp)
  have hr := readR_good (t := txt (pr f 0)) (f := g) (by rw [txt_size]; have := pr_length f 0; omega) (by rw [hn, byteAt_txt (pr_all f), txt_size]; exact h1)
  refine ⟨_, hr, fun c hc => ?_⟩
  rw [h2, hn]
  simp [emptyS, hc]
/-- With a sign ahead it is all others. -/
theorem read_not (f : Nat → Bool) : ∃ g, readR (txt (94 :: pr f 0)) = (0, 0, g) ∧ ∀ c, c < 256 → g c = !f c := by
  have ha : ∀ x ∈ 94 :: pr f 0, x < 256 := by
    intro x hx
    rcases List.mem_cons.1 hx with rfl | hx
    · omega
    · exact pr_all f x hx
  have hn : notR (txt (94 :: pr f 0)) = true := by
    unfold notR
    rw [byteAt_txt ha, txt_size]
    simp
  obtain ⟨g, h1, h2⟩ := loop_print f 256 0 (by omega) (94 :: pr f 0) [94] (94 :: pr f 0).length emptyS rfl (by simp)
  have hr := readR_good (t := txt (94 :: pr f 0)) (f := g) (by rw [txt_size]; have := pr_length f 0; simp <;> omega) (by rw [hn, byteAt_txt ha, txt_size]; exact h1)
  refine ⟨_, hr, fun c hc => ?_⟩
  rw [h2, hn]
  simp [emptyS, hc]
theorem readR_bad {t : ByteArray} (h : (readR t).1 ≠ 0) : (readR t).2.2 = emptyS := by
  unfold readR at h ⊢
  split
  · rfl
  · next hs =>
    rw [if_neg hs] at h
    dsimp only at h ⊢
    split
    · next h0 => rw [if_pos h0] at h; exact absurd rfl h
    · next h0 =>
      have hle : (notR t).toNat ≤ t.size := by
        unfold notR
        by_cases hz : 0 < t.size
        · have := Bool.toNat_le (decide (0 < t.size) && decide (byteAt t 0 = 94)); omega
        · simp [hz]
      exact (loopR_fault _ _ _ hle).2.1 h0
theorem readR_ok {t : ByteArray} (h : (readR t).1 = 0) : (readR t).2.1 = 0 := by
  unfold readR at h ⊢
  split
  · rfl
  · next hs =>
    rw [if_neg hs] at h
    dsimp only at h ⊢
    split
    · rfl
    · next h0 =>
      rw [if_neg h0] at h
      exact absurd h h0
/-- A set comes back from its bytes. -/
theorem of_text (f : Nat → Bool) (c : Nat) (hc : c < 256) : setOf (bytesL (bl f 0 256)) c = f c := by
  rw [setOf_mem]
  cases hf : f c with
  | true =>
    rw [List.any_eq_true]
    refine ⟨UInt8.ofNat c, ?_, by simp <;> omega⟩
    unfold bytesL
    exact List.mem_map.2 ⟨c, mem_bl 256 0 c (Nat.zero_le _) (by omega) hf, rfl⟩
  | false =>
    rw [List.any_eq_false]
    intro x hx
    unfold bytesL at hx
    obtain ⟨j, hj, rfl⟩ := List.mem_map.1 hx
    obtain ⟨_, hj2, hj3⟩ := bl_mem 256 0 j hj
    simp only [UInt8.toNat_ofNat']
    rw [Nat.mod_eq_of_lt (by omega)]
    intro e
    have : c = j := by simpa using e
    subst this
    rw [hf] at hj3; cases hj3
end Go.Proofs.YtolfdcbebjfjiaaDoor
