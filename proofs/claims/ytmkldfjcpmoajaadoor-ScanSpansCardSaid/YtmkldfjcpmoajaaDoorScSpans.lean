/- ScanSpans: the walk. Conditions: what the arguments are read as; the library's table of powers of ten. -/
import Derived.Test.YtmkldfjcpmoajaaDoorScShape
import Derived.Test.YtmkldfjcpmoajaaDoorScPlain
namespace Go.Proofs.YtmkldfjcpmoajaaDoor
open Go.RowKit
set_option linter.unusedVariables false
theorem takeWhile_len {α : Type} {p : α → Bool} : ∀ {l : List α} {k : Nat} (hk : k ≤ l.length), (∀ j (hj : j < k), p (l[j]'(by omega)) = true) → (∀ h : k < l.length, p l[k] = false) → (l.takeWhile p).length = k
  | [], k, hk, _, _ => by simp at hk; subst hk; rfl
  | x :: l, 0, hk, h1, h2 => by
    have := h2 (by simp)
    simp at this
    simp [List.takeWhile, this]
  | x :: l, k + 1, hk, h1, h2 => by
    have h0 := h1 0 (by omega)
    simp at h0
    rw [List.takeWhile_cons, if_pos h0, List.length_cons, takeWhile_len (l := l) (k := k) (by simpa using hk) (fun j hj => by simpa using h1 (j + 1) (by omega)) (fun h => by have := h2 (by simpa using h); rwa [List.getElem_cons_succ] at this)]
section
variable {w : World} {t s : ByteArray}
def inT (t : ByteArray) (c : UInt8) : Bool := t.data.toList.contains c
theorem eq_u8 {c : UInt8} {d : UInt8} : ((c.toNat : Int) == (d.toNat : Int)) = decide (c = d) := by
  by_cases h : c = d
  · subst h; simp
  · rw [decide_eq_false h, beq_eq_false_iff_ne]
    intro e
    exact h (UInt8.toNat_inj.1 (by omega))
set_option maxRecDepth 100000 in
set_option maxHeartbeats 1000000 in
theorem has_any (c : UInt8) (ht : t.size ≤ 9223372036854775807) (w : World) :
    Calls Tryd.prog 30 #[.string t, .int .u8 c.toNat] w fun e w' => e = .returned (.bool (inT t c)) ∧ w = w' := by
  go_enter Tryd.func30, Tryd.ntmps30
  go_wp2_with fail
  go_loop [5] (fun s5 => ∃ k : Nat, k ≤ t.size ∧ s5 = .int .i64 k ∧ Hid (inT t c = (t.data.toList.drop k).contains c)) (fun s5 => t.size - (intOf s5).toNat)
  case atStart => exact ⟨0, Nat.zero_le _, rfl, rfl⟩
  case round =>
    obtain ⟨k, hk, rfl, HI⟩ := hrel
    by_cases hlt : k < t.size
    · have hl : k < t.data.toList.length := hlt
      have hd : t.data.toList.drop k = t[k] :: t.data.toList.drop (k + 1) := List.drop_eq_getElem_cons hl
      have HD := hidd (HI.out)
      rw [hd, List.contains_cons] at HD
      have hbb := eq_u8 (c := t[k]) (d := c)
      by_cases hx : t[k] = c
      · have HE : Hid (inT t c = true) := by rw [Hid, HD.out]; simp [hx]
        rw [decide_eq_true hx] at hbb
        clear HI HD hd hx
        go_wp2_with fail
        go_ret
        exact ⟨ret_bool HE.out.symm, rfl⟩
      · have HE : Hid (inT t c = (t.data.toList.drop (k + 1)).contains c) := by
          have := HD.out
          rwa [show (c == t[k]) = false from beq_eq_false_iff_ne.2 (Ne.symm hx), Bool.false_or] at this
        rw [decide_eq_false hx] at hbb
        clear HI HD hd hx
        go_wp2_with fail
        go_round
        case rel => exact ⟨k + 1, by omega, by go_num, HE.out⟩
        case measure => simp [intOf]; omega
    · have HE : Hid (inT t c = false) := by
        rw [Hid, HI.out, List.drop_of_length_le (show t.data.toList.length ≤ k by have : t.data.toList.length = t.size := rfl; omega)]; rfl
      clear HI
      go_wp2_with fail
      go_ret
      exact ⟨ret_bool HE.out.symm, rfl⟩
theorem set_err {k : Int} (hk : k = 5 ∨ k = 6 ∨ k = 7) (h0 : 0 < t.size) (h1 : t.size ≤ 65536) : patErr (someP k 0 t) = 0 := by
  have hw : errW (someP k 0 t) = 0 := by
    have hn : nodeErr (someP k 0 t) = 0 := by
      unfold nodeErr
      rw [show (someP k 0 t).kind = k from rfl, show (someP k 0 t).text = t from rfl, show (someP k 0 t).kids = [] from rfl]
      rw [if_neg (by omega), if_neg (by omega), if_pos (by omega), if_neg (by omega), if_neg (by omega)]
      rfl
    show errW (.mk k t 0 ByteArray.empty []) = 0
    have hn' : nodeErr (Pat.mk k t 0 ByteArray.empty []) = 0 := hn
    rw [errW, if_pos hn']; rfl
  unfold patErr
  rw [if_pos (by rfl)]; exact hw
theorem set_ask {k : Int} (hk : k = 5 ∨ k = 6 ∨ k = 7) (h0 : 0 < t.size) (h1 : t.size ≤ 65536) (h2 : s.size ≤ 65536) : askErr [] (someP k 0 t) s 20000 = 0 := by
  unfold askErr
  rw [if_pos (set_err hk h0 h1), if_pos (show rulesErr [] = 0 from rfl), if_neg (by omega), if_neg (by omega)]
/-- What is told of a span, of a break, of all breaks. -/
theorem span_all (n : Nat) (hn : n ≤ s.size) (h0 : 0 < t.size) (h1 : t.size ≤ 65536) (h2 : s.size ≤ 3000) : allT [] s (someP 5 0 t) n = ((endAt s.data.toList (someP 5 0 t) n).toList.map (fun a => (a, [])), false, 0) ∧ allOk (allT [] s (someP 5 0 t) n) = true :=
  all_node [] s (set_ask (by omega) h0 h1 (by omega)) hn rfl (by cases endAt s.data.toList (someP 5 0 t) n <;> simp)
theorem break_all (n : Nat) (hn : n ≤ s.size) (h0 : 0 < t.size) (h1 : t.size ≤ 65536) (h2 : s.size ≤ 3000) : allT [] s (someP 6 0 t) n = ((endAt s.data.toList (someP 6 0 t) n).toList.map (fun a => (a, [])), false, 0) ∧ allOk (allT [] s (someP 6 0 t) n) = true :=
  all_node [] s (set_ask (by omega) h0 h1 (by omega)) hn rfl (by cases endAt s.data.toList (someP 6 0 t) n <;> simp)
theorem breaks_len (T : List UInt8) : ∀ (l : List UInt8) (a : Nat), (breaks T l a).length ≤ l.length
  | [], a => Nat.le_refl _
  | c :: l, a => by
    have := breaks_len T l (a + 1)
    rw [breaks]
    split <;> simp <;> omega
theorem breakx_all (n : Nat) (hn : n ≤ s.size) (h0 : 0 < t.size) (h1 : t.size ≤ 65536) (h2 : s.size ≤ 3000) : allT [] s (someP 7 0 t) n = ((breaks t.data.toList (s.data.toList.drop n) n).map (fun a => (a, [])), false, 0) ∧ allOk (allT [] s (someP 7 0 t) n) = true :=
  all_node [] s (set_ask (by omega) h0 h1 (by omega)) hn rfl (by
    have := breaks_len t.data.toList (s.data.toList.drop n) n
    rw [List.length_drop] at this
    have h3 : s.data.toList.length = s.size := rfl
    omega)
/-- Where the span ends. -/
theorem span_end {n e : Nat} (hn : n ≤ e) (he : e ≤ s.size) (h1 : ∀ j (hj : j < s.size), n ≤ j → j < e → inT t s[j] = true) (h2 : ∀ h : e < s.size, inT t s[e] = false) :
    endAt s.data.toList (someP 5 0 t) n = if n < e then some e else none := by
  have hl : s.data.toList.length = s.size := rfl
  have := takeWhile_len (p := t.data.toList.contains) (l := s.data.toList.drop n) (k := e - n) (by rw [List.length_drop]; omega) (fun j hj => by
    rw [List.getElem_drop]; exact h1 (n + j) (by omega) (by omega) (by omega)) (fun h => by
    rw [List.length_drop] at h
    rw [List.getElem_drop]
    have := h2 (by omega)
    have e2 : n + (e - n) = e := by omega
    simp only [e2]
    exact this)
  rw [pe_span, this]
  by_cases hne : n < e
  · rw [if_pos (by omega), if_pos hne]; congr 1; omega
  · rw [if_neg (by omega), if_neg hne]
theorem break_none {n : Nat} (hn : n ≤ s.size) (h1 : ∀ j (hj : j < s.size), n ≤ j → inT t s[j] = false) : endAt s.data.toList (someP 6 0 t) n = none := by
  have hl : s.data.toList.length = s.size := rfl
  have := takeWhile_len (p := fun c => !t.data.toList.contains c) (l := s.data.toList.drop n) (k := s.size - n) (by rw [List.length_drop]; omega) (fun j hj => by
    rw [List.getElem_drop]; have := h1 (n + j) (by omega) (by omega); unfold inT at this; simp only [Bool.not_eq_true']; exact this) (fun h => by
    rw [List.length_drop] at h; omega)
  rw [pe_break, this, if_neg (by omega)]
theorem break_some {n e : Nat} (hn : n ≤ e) (he : e < s.size) (h1 : ∀ j (hj : j < s.size), n ≤ j → j < e → inT t s[j] = false) (h2 : inT t s[e] = true) : endAt s.data.toList (someP 6 0 t) n = some e := by
  have hl : s.data.toList.length = s.size := rfl
  have := takeWhile_len (p := fun c => !t.data.toList.contains c) (l := s.data.toList.drop n) (k := e - n) (by rw [List.length_drop]; omega) (fun j hj => by
    rw [List.getElem_drop]; have := h1 (n + j) (by omega) (by omega) (by omega); unfold inT at this; simp only [Bool.not_eq_true']; exact this) (fun h => by
    rw [List.getElem_drop]
    have e2 : n + (e - n) = e := by omega
    simp only [e2]
    unfold inT at h2
    simp only [Bool.not_eq_false']
    exact h2)
  rw [pe_break, this, if_pos (by omega)]
  congr 1; omega
theorem breaks_step {i : Nat} (hi : i < s.size) : breaks t.data.toList (s.data.toList.drop i) i = if inT t s[i] = true then i :: breaks t.data.toList (s.data.toList.drop (i + 1)) (i + 1) else breaks t.data.toList (s.data.toList.drop (i + 1)) (i + 1) := by
  rw [List.drop_eq_getElem_cons (show i < s.data.toList.length from hi), breaks]; rfl
theorem breaks_end : breaks t.data.toList (s.data.toList.drop s.size) s.size = [] := by
  rw [List.drop_of_length_le (Nat.le_of_eq (show s.data.toList.length = s.size from rfl))]; rfl
theorem t_some {t : ByteArray} (h : 0 < t.size) : t.toList.isEmpty = false := by
  rw [Lib.toList_data, ← Bool.not_eq_true, List.isEmpty_iff]
  intro e; have := size_data t; rw [e, List.length_nil] at this; omega
/-- The cells of a list of places. -/
def Places (w : World) (a : Option Addr) (c : Nat) (L : List Nat) : Prop := L.length ≤ c ∧ ∀ i, i < L.length → ∃ b o : Nat, a = some ⟨b, o, none⟩ ∧ w.cell? ⟨b, o + i * 2, none⟩ = some (.int .i64 ((L.getD i 0 : Nat) : Int))
theorem Places.kept {w w' : World} (g : Grew w w') {a : Option Addr} {c : Nat} {L : List Nat} (h : Places w a c L) : Places w' a c L :=
  ⟨h.1, fun i hi => by obtain ⟨b, o, h1, h2⟩ := h.2 i hi; exact ⟨b, o, h1, g.keeps h2⟩⟩
theorem places_of {w : World} {a : Option Addr} {c : Nat} {L : List Nat} (h : WaysV w (.slice a L.length c) (L.map (fun a => ((a, []) : Way)))) : Places w a c L := by
  refine ⟨?_, fun i hi => ?_⟩
  · obtain ⟨_, c2, e, h, _⟩ := h.len
    rw [List.length_map] at e h
    cases e; exact h
  · rcases h with ⟨_, _, e, e2⟩ | ⟨b, o, c2, e, _, _, _, h⟩
    · have := congrArg List.length e2
      rw [List.length_map, List.length_nil] at this
      omega
    · rw [List.length_map] at e h
      cases e
      refine ⟨b, o, rfl, ?_⟩
      have := (h i hi).1
      rw [List.getD_eq_getElem?_getD, List.getElem?_map, List.getElem?_eq_getElem hi] at this
      rw [List.getD_eq_getElem?_getD, List.getElem?_eq_getElem hi]
      exact this
theorem spans_all {k : Int} {L : List Nat} {w1 : World} (n : Nat) (hk : k = 5 ∨ k = 6 ∨ k = 7) (h : allT [] s (someP k 0 t) n = (L.map (fun a => (a, [])), false, 0) ∧ allOk (allT [] s (someP k 0 t) n) = true) (h1 : t.size ≤ 256) (hs : s.size ≤ maxLen) (hT : TabP w1) :
    Calls Tryd.prog 29 #[.slice none 0 0, .agg #[.int .i64 k, .string t, .int .i64 0, .string ByteArray.empty, .slice none 0 0], .string s, .int .i64 n] w1 fun e w' => Grew w1 w' ∧ ∃ a c, e = .returned (.tuple #[.slice a L.length c, .bool false, .bool true]) ∧ Places w' a c L := by
  have hp : PatV w1 (.slice none 0 0) (someP k 0 t) := ⟨kids_none _, ⟨by show (-9223372036854775808 : Int) ≤ k; omega, by show k ≤ (9223372036854775807 : Int); omega⟩, ⟨by show (-9223372036854775808 : Int) ≤ 0; omega, by show (0 : Int) ≤ 9223372036854775807; omega⟩, by show t.size ≤ maxLen; unfold maxLen; omega, Nat.zero_le _⟩
  exact (all_any (p := someP k 0 t) (kv := .slice none 0 0) n (rules_none w1) hp hs hT).mono fun e w' ⟨g1, a, c, h2, h3⟩ => by
    rw [h.2, h.1] at h2
    rw [h.1] at h3
    dsimp only at h2 h3
    rw [List.length_map] at h2 h3
    exact ⟨g1, a, c, h2, places_of h3⟩
/-- The first byte that is one of t's, of those from n up to i. -/
def FirstHit (t s : ByteArray) (n i : Nat) (f : Int) : Prop :=
  (f = -1 ∧ ∀ j (hj : j < s.size), n ≤ j → j < i → inT t s[j] = false) ∨ ∃ e : Nat, ∃ he : e < s.size, f = e ∧ n ≤ e ∧ e < i ∧ (∀ j (hj : j < s.size), n ≤ j → j < e → inT t s[j] = false) ∧ inT t s[e] = true
theorem FirstHit.miss {n i : Nat} {f : Int} (h : FirstHit t s n i f) (hi : i < s.size) (hb : inT t s[i] = false) : FirstHit t s n (i + 1) f := by
  rcases h with ⟨h1, h2⟩ | ⟨e, he, h1, h2, h3, h4, h5⟩
  · refine Or.inl ⟨h1, fun j hj hn hji => ?_⟩
    by_cases hje : j = i
    · subst hje; exact hb
    · exact h2 j hj hn (by omega)
  · exact Or.inr ⟨e, he, h1, h2, by omega, h4, h5⟩
theorem FirstHit.hit {n i : Nat} {f : Int} (h : FirstHit t s n i f) (hn : n ≤ i) (hi : i < s.size) (hb : inT t s[i] = true) : (f = -1 ∧ FirstHit t s n (i + 1) i) ∨ (0 ≤ f ∧ f < 3000000 + s.size ∧ FirstHit t s n (i + 1) f) := by
  rcases h with ⟨h1, h2⟩ | ⟨e, he, h1, h2, h3, h4, h5⟩
  · exact Or.inl ⟨h1, Or.inr ⟨i, hi, rfl, hn, by omega, h2, hb⟩⟩
  · exact Or.inr ⟨by omega, by omega, Or.inr ⟨e, he, h1, h2, by omega, h4, h5⟩⟩
theorem FirstHit.ended {n : Nat} {f : Int} (hn : n ≤ s.size) (h : FirstHit t s n s.size f) : (f = -1 ∧ (endAt s.data.toList (someP 6 0 t) n).toList = []) ∨ ∃ e : Nat, f = e ∧ e < s.size ∧ (endAt s.data.toList (someP 6 0 t) n).toList = [e] := by
  rcases h with ⟨h1, h2⟩ | ⟨e, he, h1, h2, h3, h4, h5⟩
  · exact Or.inl ⟨h1, by rw [break_none hn (fun j hj h => h2 j hj h hj)]; rfl⟩
  · exact Or.inr ⟨e, h1, he, by rw [break_some h2 he h4 h5]; rfl⟩
theorem span_list {n e : Nat} (hn : n ≤ e) (he : e ≤ s.size) (h1 : ∀ j (hj : j < s.size), n ≤ j → j < e → inT t s[j] = true) (h2 : ∀ h : e < s.size, inT t s[e] = false) :
    (n = e ∧ (endAt s.data.toList (someP 5 0 t) n).toList = []) ∨ (n < e ∧ (endAt s.data.toList (someP 5 0 t) n).toList = [e]) := by
  rw [span_end hn he h1 h2]
  by_cases h : n < e
  · rw [if_pos h]; exact Or.inr ⟨h, rfl⟩
  · rw [if_neg h]; exact Or.inl ⟨by omega, rfl⟩
set_option maxRecDepth 100000 in
set_option maxHeartbeats 4000000 in
theorem ScanSpans_walk (at_ : Int) (ht : t.size ≤ maxLen) (hs : s.size ≤ maxLen) (hat : -9223372036854775808 ≤ at_ ∧ at_ ≤ 9223372036854775807) (hT : TabP w) :
    Calls Tryd.prog 12 #[.string t, .string s, .int .i64 at_] w fun e w' => e = .returned (.bool true) ∧ Grew w w' := by
  have HAl : Hid (∀ w1, Grew w w1 → Calls Tryd.prog 23 #[] w1 fun e w' => e = .returned (.bool true) ∧ Grew w1 w') := fun w1 g => alive_any w1 (hT.kept g)
  by_cases hr : at_ < 0 ∨ (s.size : Int) < at_ ∨ t.size = 0 ∨ 256 < t.size ∨ 3000 < s.size
  · have hr2 : at_ < 0 ∨ (0 ≤ at_ ∧ (s.size : Int) < at_) ∨ (0 ≤ at_ ∧ at_ ≤ (s.size : Int) ∧ (t.toList.isEmpty = true ∨ (t.toList.isEmpty = false ∧ 256 < (t.size : Int)) ∨ (t.toList.isEmpty = false ∧ (t.size : Int) ≤ 256 ∧ 3000 < (s.size : Int)))) := by
      by_cases h0 : t.size = 0
      · have he : t.toList.isEmpty = true := by rw [Lib.toList_data, show t.data.toList = [] from List.eq_nil_of_length_eq_zero h0]; rfl
        simp only [he, true_or, and_true]
        omega
      · have he := t_some (t := t) (by omega)
        simp only [he, true_and, Bool.false_eq_true, false_or]
        omega
    unfold maxLen at hs ht
    clear hr hT hat
    rcases hr2 with h | h | ⟨h, h', h'' | h'' | h''⟩
    all_goals
      go_enter Tryd.func12, Tryd.ntmps12
      go_wp2_with fail
      refine (HAl.out _ (Grew.refl w)).mono ?_; rintro e w1 ⟨rfl, g1⟩
      have HG := hidd g1
      clear g1
      go_wp2_with fail
      go_ret
      exact ⟨rfl, HG.out⟩
  · obtain ⟨n, rfl⟩ : ∃ n : Nat, at_ = n := ⟨at_.toNat, by omega⟩
    have hn : n ≤ s.size := by omega
    have h3000 : s.size ≤ 3000 := by omega
    have h256 : t.size ≤ 256 := by omega
    have f0 : t.toList.isEmpty = false := t_some (by omega)
    have HHas : Hid (∀ (c : UInt8) w1, Calls Tryd.prog 30 #[.string t, .int .u8 c.toNat] w1 fun e w' => e = .returned (.bool (inT t c)) ∧ w1 = w') := fun c w1 => has_any c (by omega) w1
    have HC : Hid (∀ (k : Int) w1, (0 ≤ k ∧ k ≤ 24) → Calls Tryd.prog 27 #[.int .i64 k, .int .i64 0, .string t] w1 fun e w' => e = .returned (.agg #[.int .i64 k, .string t, .int .i64 0, .string ByteArray.empty, .slice none 0 0]) ∧ Grew w1 w') :=
      fun k w1 hk => (some_any k 0 t w1 (by omega) (by omega) ht).mono fun e w' h => ⟨h.1, h.2.1⟩
    have HA := hidd (fun w1 g => spans_all (s := s) (w1 := w1) n (Or.inl rfl) (span_all n hn (by omega) (by omega) h3000) h256 hs (hT.kept (w' := w1) g))
    have HB := hidd (fun w1 g => spans_all (s := s) (w1 := w1) n (Or.inr (Or.inl rfl)) (break_all n hn (by omega) (by omega) h3000) h256 hs (hT.kept (w' := w1) g))
    have HD := hidd (fun w1 g => spans_all (s := s) (w1 := w1) n (Or.inr (Or.inr rfl)) (breakx_all n hn (by omega) (by omega) h3000) h256 hs (hT.kept (w' := w1) g))
    have HSL := hidd (fun e => @span_list t s n e)
    have HFE := hidd (fun f => @FirstHit.ended t s n f hn)
    have HBS := hidd (fun i (hi : i < s.size) => breaks_step (t := t) hi)
    have HBE := hidd (breaks_end (t := t) (s := s))
    have HCL : Hid ((breaks t.data.toList (s.data.toList.drop n) n).length ≤ 3000) := by
      have := breaks_len t.data.toList (s.data.toList.drop n) n
      rw [List.length_drop] at this
      have h3 : s.data.toList.length = s.size := rfl
      show _ ≤ _; omega
    obtain ⟨A, hA⟩ : ∃ A, (endAt s.data.toList (someP 5 0 t) n).toList = A := ⟨_, rfl⟩
    obtain ⟨B, hB⟩ : ∃ B, (endAt s.data.toList (someP 6 0 t) n).toList = B := ⟨_, rfl⟩
    obtain ⟨C, hC⟩ : ∃ C, breaks t.data.toList (s.data.toList.drop n) n = C := ⟨_, rfl⟩
    rw [hA] at HA HSL
    rw [hB] at HB HFE
    have HC0 := hidd hC
    rw [hC] at HD HCL
    have hCl := HCL.out
    clear hr hT hat hs ht hA hB hC HCL
    go_enter Tryd.func12, Tryd.ntmps12
    go_wp2_with fail
    refine (HAl.out _ (Grew.refl w)).mono ?_; rintro e w1 ⟨rfl, g1⟩
    have G1 := hidd g1
    clear g1 HAl
    go_wp2_with fail
    refine (HC.out 5 _ (by omega)).mono ?_; rintro e w2 ⟨rfl, g2⟩
    have G2 := hidd (G1.out.trans g2)
    clear g2
    go_wp2_with fail
    refine (HA.out _ G2.out).mono ?_; rintro e w3 ⟨g3, a, ca, rfl, hv3⟩
    have G3 := hidd (G2.out.trans g3)
    have P3 := hidd hv3
    clear g3 hv3 HA
    go_wp2_with fail
    refine (HC.out 6 _ (by omega)).mono ?_; rintro e w4 ⟨rfl, g4⟩
    have G4 := hidd (G3.out.trans g4)
    have P4 := hidd (P3.out.kept g4)
    clear g4 P3
    go_wp2_with fail
    refine (HB.out _ G4.out).mono ?_; rintro e w5 ⟨g5, b, cb, rfl, hv5⟩
    have G5 := hidd (G4.out.trans g5)
    have P5 := hidd (And.intro (P4.out.kept g5) hv5)
    clear g5 hv5 HB P4
    go_wp2_with fail
    refine (HC.out 7 _ (by omega)).mono ?_; rintro e w6 ⟨rfl, g6⟩
    have G6 := hidd (G5.out.trans g6)
    have P6 := hidd (And.intro (P5.out.1.kept g6) (P5.out.2.kept g6))
    clear g6 P5
    go_wp2_with fail
    refine (HD.out _ G6.out).mono ?_; rintro e w7 ⟨g7, d, cd, rfl, hv7⟩
    have G7 := hidd (G6.out.trans g7)
    have P7 := hidd (And.intro (P6.out.1.kept g7) (And.intro (P6.out.2.kept g7) hv7))
    have hcl : C.length ≤ cd := hv7.1
    clear g7 hv7 HD P6 HC G1 G2 G3 G4 G5 G6
    go_wp2_with fail
    go_loopg [16] (s.size + 1) (fun kk s16 wr => ∃ e : Nat, s16 = .int .i64 e ∧ Hid (Grew w7 wr ∧ ∀ j (hj : j < s.size), n ≤ j → j < e → inT t s[j] = true) ∧ n ≤ e ∧ e ≤ s.size ∧ s.size + 1 ≤ kk + e)
    case atStart => exact ⟨n, rfl, ⟨Grew.refl _, fun j _ h1 h2 => absurd h2 (by omega)⟩, by omega, by omega, by omega⟩
    case round =>
      obtain ⟨e, rfl, HI, hne, hes, hkk⟩ := hrel
      have h3 : (∃ h : e < s.size, inT t s[e] = true) ∨ (∃ h : e < s.size, inT t s[e] = false) ∨ e = s.size := by
        by_cases h : e < s.size
        · cases hb : inT t s[e]
          · exact Or.inr (Or.inl ⟨h, hb⟩)
          · exact Or.inl ⟨h, hb⟩
        · exact Or.inr (Or.inr (by omega))
      rcases h3 with ⟨hlt, hb⟩ | ⟨hlt, hb⟩ | hlt
      · have hx := HHas.out s[e] wr
        rw [hb] at hx
        have HX := hidd hx
        have HI2 : Hid (Grew w7 wr ∧ ∀ j (hj : j < s.size), n ≤ j → j < e + 1 → inT t s[j] = true) := ⟨HI.out.1, fun j hj h1 h2 => by
          by_cases hje : j = e
          · subst hje; exact hb
          · exact HI.out.2 j hj h1 (by omega)⟩
        clear hx hb HI
        go_wp2_with fail
        refine HX.out.mono ?_; rintro x wx ⟨rfl, rfl⟩
        clear HX
        go_wp2_with fail
        go_roundg (s.size + 1 - (e + 1))
        case rel => exact ⟨e + 1, by go_num, HI2.out, by omega, by omega, by omega⟩
        case measure => omega
      · have hx := HHas.out s[e] wr
        rw [hb] at hx
        have HX := hidd hx
        have HS := hidd (HSL.out e hne hes HI.out.2 (fun _ => hb))
        have HG := hidd HI.out.1
        clear hx hb HI HSL hkk
        go_wp2_with fail
        refine HX.out.mono ?_; rintro x wx ⟨rfl, rfl⟩
        clear HX
        go_wp2_with fail
        go_loopg [17, 18, 19] (s.size + 1) (fun kk s17 s18 s19 wr2 => ∃ (f : Int) (k i : Nat), s17 = .int .i64 f ∧ s18 = .int .i64 k ∧ s19 = .int .i64 i ∧ Hid (Grew w7 wr2 ∧ FirstHit t s n i f ∧ C.drop k = breaks t.data.toList (s.data.toList.drop i) i) ∧ n ≤ i ∧ i ≤ s.size ∧ k ≤ C.length ∧ s.size + 1 ≤ kk + i)
        case atStart => exact ⟨-1, 0, n, rfl, rfl, rfl, ⟨HG.out, Or.inl ⟨rfl, fun j _ h1 h2 => absurd h2 (by omega)⟩, HC0.out.symm⟩, by omega, by omega, by omega, by omega⟩
        case round =>
          obtain ⟨f, k, i, rfl, rfl, rfl, HI, hni, his, hkC, hkk⟩ := hrel
          by_cases hlt : i < s.size
          · have hst := HBS.out i hlt
            have hx := HHas.out s[i] wr
            cases hb : inT t s[i]
            · rw [hb] at hx hst
              have HX := hidd hx
              have HI2 : Hid (Grew w7 wr ∧ FirstHit t s n (i + 1) f ∧ C.drop k = breaks t.data.toList (s.data.toList.drop (i + 1)) (i + 1)) := ⟨HI.out.1, HI.out.2.1.miss hlt hb, by rw [HI.out.2.2, hst]; rfl⟩
              clear hx hst hb HI
              go_wp2_with fail
              refine HX.out.mono ?_; rintro x wx ⟨rfl, rfl⟩
              clear HX
              go_wp2_with fail
              go_roundg (s.size + 1 - (i + 1))
              case rel => exact ⟨f, k, i + 1, rfl, rfl, by go_num, HI2.out, by omega, by omega, by omega, by omega⟩
              case measure => omega
            · rw [hb] at hx hst
              rw [if_pos rfl, ← HI.out.2.2] at hst
              have hkl : k < C.length := by
                have := congrArg List.length hst
                rw [List.length_drop] at this
                simp at this; omega
              have hdk : C.drop k = C[k] :: C.drop (k + 1) := List.drop_eq_getElem_cons hkl
              rw [hdk] at hst
              simp only [List.cons.injEq] at hst
              obtain ⟨hPk, hL2⟩ := hst
              obtain ⟨bb, ob, rfl, a0'⟩ := P7.out.2.2.2 k hkl
              rw [List.getD_eq_getElem?_getD, List.getElem?_eq_getElem hkl, Option.getD_some, hPk] at a0'
              have a0 := HI.out.1.keeps a0'
              have hF := HI.out.2.1.hit hni hlt hb
              have HG2 := hidd HI.out.1
              have HX := hidd hx
              have HL2 := hidd hL2
              have f1 : (((i : Nat) : Int) != ((i : Nat) : Int)) = false := by simp
              clear hx hdk hb HI hPk hL2 a0'
              rcases hF with ⟨rfl, hF⟩ | ⟨hf0, hf1, hF⟩
              · have HF := hidd hF
                clear hF
                go_wp2_with fail
                refine HX.out.mono ?_; rintro x wx ⟨rfl, rfl⟩
                clear HX
                go_wp2_with fail
                go_roundg (s.size + 1 - (i + 1))
                case rel => exact ⟨i, k + 1, i + 1, rfl, by go_num, by go_num, ⟨HG2.out, HF.out, HL2.out⟩, by omega, by omega, by omega, by omega⟩
                case measure => omega
              · have HF := hidd hF
                clear hF
                go_wp2_with fail
                refine HX.out.mono ?_; rintro x wx ⟨rfl, rfl⟩
                clear HX
                go_wp2_with fail
                go_roundg (s.size + 1 - (i + 1))
                case rel => exact ⟨f, k + 1, i + 1, rfl, by go_num, by go_num, ⟨HG2.out, HF.out, HL2.out⟩, by omega, by omega, by omega, by omega⟩
                case measure => omega
          · obtain rfl : i = s.size := by omega
            have hk2 : k = C.length := by
              have := congrArg List.length HI.out.2.2
              rw [HBE.out, List.length_drop] at this
              simp at this; omega
            subst hk2
            have hFE := HFE.out f HI.out.2.1
            have HG3 := hidd (G7.out.trans HI.out.1)
            have PA := hidd (P7.out.1.kept HI.out.1)
            have PB := hidd (P7.out.2.1.kept HI.out.1)
            clear HI P7 HBS HBE HFE HHas HC0 hkk
            rcases HS.out with ⟨rfl, rfl⟩ | ⟨hlte, rfl⟩
            · clear HS PA
              rcases hFE with ⟨rfl, rfl⟩ | ⟨ee, rfl, hee, rfl⟩
              · clear PB
                go_wp2_with fail
                go_ret
                exact ⟨rfl, HG3.out⟩
              · obtain ⟨b1, o1, rfl, b0⟩ := PB.out.2 0 (Nat.zero_lt_one)
                have hcb : 1 ≤ cb := PB.out.1
                have b0' : wr.cell? ⟨b1, o1, none⟩ = some (.int .i64 (ee : Int)) := b0
                have f1 : ((ee : Int) != (ee : Int)) = false := by simp
                clear b0
                clear PB
                go_wp2_with fail
                go_ret
                exact ⟨rfl, HG3.out⟩
            · obtain ⟨b2, o2, rfl, c0⟩ := PA.out.2 0 (Nat.zero_lt_one)
              have hca : 1 ≤ ca := PA.out.1
              have c0' : wr.cell? ⟨b2, o2, none⟩ = some (.int .i64 (e : Int)) := c0
              clear c0
              clear HS PA
              rcases hFE with ⟨rfl, rfl⟩ | ⟨ee, rfl, hee, rfl⟩
              · clear PB
                go_wp2_with fail
                go_ret
                exact ⟨rfl, HG3.out⟩
              · obtain ⟨b1, o1, rfl, b0⟩ := PB.out.2 0 (Nat.zero_lt_one)
                have hcb : 1 ≤ cb := PB.out.1
                have b0' : wr.cell? ⟨b1, o1, none⟩ = some (.int .i64 (ee : Int)) := b0
                have f1 : ((ee : Int) != (ee : Int)) = false := by simp
                clear b0
                clear PB
                go_wp2_with fail
                go_ret
                exact ⟨rfl, HG3.out⟩
      · subst hlt
        have HS := hidd (HSL.out _ hne hes HI.out.2 (fun h => absurd h (by omega)))
        have HG := hidd HI.out.1
        clear HI HSL hkk
        go_wp2_with fail
        go_loopg [17, 18, 19] (s.size + 1) (fun kk s17 s18 s19 wr2 => ∃ (f : Int) (k i : Nat), s17 = .int .i64 f ∧ s18 = .int .i64 k ∧ s19 = .int .i64 i ∧ Hid (Grew w7 wr2 ∧ FirstHit t s n i f ∧ C.drop k = breaks t.data.toList (s.data.toList.drop i) i) ∧ n ≤ i ∧ i ≤ s.size ∧ k ≤ C.length ∧ s.size + 1 ≤ kk + i)
        case atStart => exact ⟨-1, 0, n, rfl, rfl, rfl, ⟨HG.out, Or.inl ⟨rfl, fun j _ h1 h2 => absurd h2 (by omega)⟩, HC0.out.symm⟩, by omega, by omega, by omega, by omega⟩
        case round =>
          obtain ⟨f, k, i, rfl, rfl, rfl, HI, hni, his, hkC, hkk⟩ := hrel
          by_cases hlt : i < s.size
          · have hst := HBS.out i hlt
            have hx := HHas.out s[i] wr
            cases hb : inT t s[i]
            · rw [hb] at hx hst
              have HX := hidd hx
              have HI2 : Hid (Grew w7 wr ∧ FirstHit t s n (i + 1) f ∧ C.drop k = breaks t.data.toList (s.data.toList.drop (i + 1)) (i + 1)) := ⟨HI.out.1, HI.out.2.1.miss hlt hb, by rw [HI.out.2.2, hst]; rfl⟩
              clear hx hst hb HI
              go_wp2_with fail
              refine HX.out.mono ?_; rintro x wx ⟨rfl, rfl⟩
              clear HX
              go_wp2_with fail
              go_roundg (s.size + 1 - (i + 1))
              case rel => exact ⟨f, k, i + 1, rfl, rfl, by go_num, HI2.out, by omega, by omega, by omega, by omega⟩
              case measure => omega
            · rw [hb] at hx hst
              rw [if_pos rfl, ← HI.out.2.2] at hst
              have hkl : k < C.length := by
                have := congrArg List.length hst
                rw [List.length_drop] at this
                simp at this; omega
              have hdk : C.drop k = C[k] :: C.drop (k + 1) := List.drop_eq_getElem_cons hkl
              rw [hdk] at hst
              simp only [List.cons.injEq] at hst
              obtain ⟨hPk, hL2⟩ := hst
              obtain ⟨bb, ob, rfl, a0'⟩ := P7.out.2.2.2 k hkl
              rw [List.getD_eq_getElem?_getD, List.getElem?_eq_getElem hkl, Option.getD_some, hPk] at a0'
              have a0 := HI.out.1.keeps a0'
              have hF := HI.out.2.1.hit hni hlt hb
              have HG2 := hidd HI.out.1
              have HX := hidd hx
              have HL2 := hidd hL2
              have f1 : (((i : Nat) : Int) != ((i : Nat) : Int)) = false := by simp
              clear hx hdk hb HI hPk hL2 a0'
              rcases hF with ⟨rfl, hF⟩ | ⟨hf0, hf1, hF⟩
              · have HF := hidd hF
                clear hF
                go_wp2_with fail
                refine HX.out.mono ?_; rintro x wx ⟨rfl, rfl⟩
                clear HX
                go_wp2_with fail
                go_roundg (s.size + 1 - (i + 1))
                case rel => exact ⟨i, k + 1, i + 1, rfl, by go_num, by go_num, ⟨HG2.out, HF.out, HL2.out⟩, by omega, by omega, by omega, by omega⟩
                case measure => omega
              · have HF := hidd hF
                clear hF
                go_wp2_with fail
                refine HX.out.mono ?_; rintro x wx ⟨rfl, rfl⟩
                clear HX
                go_wp2_with fail
                go_roundg (s.size + 1 - (i + 1))
                case rel => exact ⟨f, k + 1, i + 1, rfl, by go_num, by go_num, ⟨HG2.out, HF.out, HL2.out⟩, by omega, by omega, by omega, by omega⟩
                case measure => omega
          · obtain rfl : i = s.size := by omega
            have hk2 : k = C.length := by
              have := congrArg List.length HI.out.2.2
              rw [HBE.out, List.length_drop] at this
              simp at this; omega
            subst hk2
            have hFE := HFE.out f HI.out.2.1
            have HG3 := hidd (G7.out.trans HI.out.1)
            have PA := hidd (P7.out.1.kept HI.out.1)
            have PB := hidd (P7.out.2.1.kept HI.out.1)
            clear HI P7 HBS HBE HFE HHas HC0 hkk
            rcases HS.out with ⟨rfl, rfl⟩ | ⟨hlte, rfl⟩
            · clear HS PA
              rcases hFE with ⟨rfl, rfl⟩ | ⟨ee, rfl, hee, rfl⟩
              · clear PB
                go_wp2_with fail
                go_ret
                exact ⟨rfl, HG3.out⟩
              · obtain ⟨b1, o1, rfl, b0⟩ := PB.out.2 0 (Nat.zero_lt_one)
                have hcb : 1 ≤ cb := PB.out.1
                have b0' : wr.cell? ⟨b1, o1, none⟩ = some (.int .i64 (ee : Int)) := b0
                have f1 : ((ee : Int) != (ee : Int)) = false := by simp
                clear b0
                clear PB
                go_wp2_with fail
                go_ret
                exact ⟨rfl, HG3.out⟩
            · obtain ⟨b2, o2, rfl, c0⟩ := PA.out.2 0 (Nat.zero_lt_one)
              have hca : 1 ≤ ca := PA.out.1
              have c0' : wr.cell? ⟨b2, o2, none⟩ = some (.int .i64 (s.size : Int)) := c0
              clear c0
              clear HS PA
              rcases hFE with ⟨rfl, rfl⟩ | ⟨ee, rfl, hee, rfl⟩
              · clear PB
                go_wp2_with fail
                go_ret
                exact ⟨rfl, HG3.out⟩
              · obtain ⟨b1, o1, rfl, b0⟩ := PB.out.2 0 (Nat.zero_lt_one)
                have hcb : 1 ≤ cb := PB.out.1
                have b0' : wr.cell? ⟨b1, o1, none⟩ = some (.int .i64 (ee : Int)) := b0
                have f1 : ((ee : Int) != (ee : Int)) = false := by simp
                clear b0
                clear PB
                go_wp2_with fail
                go_ret
                exact ⟨rfl, HG3.out⟩
end
end Go.Proofs.YtmkldfjcpmoajaaDoor
