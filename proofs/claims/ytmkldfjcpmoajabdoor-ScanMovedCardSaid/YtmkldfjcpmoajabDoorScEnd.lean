/- The machine's method end, some kinds: where a piece ends that has one end at most. -/
import Derived.Test.YtmkldfjcpmoajabDoorScMacB
import Derived.Test.YtmkldfjcpmoajabDoorScIdx
import Derived.BigQuiet
import Derived.Deep.QuietTactic
namespace Go.Proofs.YtmkldfjcpmoajabDoor
open Go.RowKit
set_option linter.unusedVariables false

/-- What comes of 'end'. -/
def Ends (X : Far) (w0 : World) (bm : Nat) (rv : Value) (s : ByteArray) (fuel : Nat) (w : World) (r : Option Nat × MS) (e : Ending) (w' : World) : Prop :=
  e = .returned (.int .i64 (optInt r.1)) ∧ MacRep X w0 bm rv s fuel r.2 w' ∧ Keep w w'
/-- The text and the node, as a walk wants them. -/
structure EndIn (w : World) (bm nb no : Nat) (s : ByteArray) (p : Pat) (a : Nat) : Prop where
  c1 : w.cell? ⟨bm, 1, none⟩ = some (.string s)
  k0 : w.cell? ⟨nb, no, none⟩ = some (.int .i64 p.kind)
  k1 : w.cell? ⟨nb, no + 1, none⟩ = some (.string p.text)
  k2 : w.cell? ⟨nb, no + 2, none⟩ = some (.int .i64 p.n)
  k3 : w.cell? ⟨nb, no + 3, none⟩ = some (.string p.name)
  hs : s.size ≤ 65536
  ha : a ≤ s.size
  ht : p.kind = 1 → p.text.size ≤ 65536
abbrev EndSays (w : World) (bm nb no a : Nat) (x : Option Nat) : Prop :=
  Calls Tryd.prog 29 #[.pointer (some ⟨bm, 0, none⟩), .pointer (some ⟨nb, no, none⟩), .int .i64 a] w fun e w' => e = .returned (.int .i64 (optInt x)) ∧ ∃ n, w' = w.drewN n

theorem drop_extract (s : ByteArray) (a : Nat) : (s.extract a s.size).data.toList = s.data.toList.drop a := by
  rw [Lib.extract_data, List.take_of_length_le (by rw [List.length_drop, ← size_data]; exact Nat.le_refl _)]
theorem size_extract_to (s : ByteArray) (a : Nat) : (s.extract a s.size).size = s.size - a := by
  rw [size_data, drop_extract, List.length_drop, ← size_data]

theorem idx_span (t : List UInt8) : ∀ (l : List UInt8), (l.takeWhile t.contains).length = (match idx l t false with | some n => n | none => l.length) ∧ (∀ n, idx l t false = some n → n < l.length)
  | [] => ⟨rfl, fun n h => by cases h⟩
  | c :: l => by
    obtain ⟨h1, h2⟩ := idx_span t l
    unfold idx at h1 h2 ⊢
    rw [List.findIdx?_cons, List.takeWhile_cons]
    by_cases e : t.contains c = true
    · rw [if_pos e, if_neg (by rw [e]; simp)]
      cases hi : List.findIdx? (fun c => t.contains c == false) l with
      | none => rw [hi] at h1; exact ⟨by rw [List.length_cons, h1]; rfl, fun n h => by cases h⟩
      | some k => rw [hi] at h1 h2; exact ⟨by rw [List.length_cons, h1]; rfl, fun n h => by
          have := h2 k rfl
          simp at h; simp; omega⟩
    · rw [if_neg e, if_pos (by simpa using e)]
      exact ⟨rfl, fun n h => by simp at h; simp; omega⟩
theorem idx_break (t : List UInt8) : ∀ (l : List UInt8), (l.takeWhile (fun c => !t.contains c)).length = (match idx l t true with | some n => n | none => l.length) ∧ (∀ n, idx l t true = some n → n < l.length)
  | [] => ⟨rfl, fun n h => by cases h⟩
  | c :: l => by
    obtain ⟨h1, h2⟩ := idx_break t l
    unfold idx at h1 h2 ⊢
    rw [List.findIdx?_cons, List.takeWhile_cons]
    by_cases e : t.contains c = true
    · rw [if_neg (by rw [e]; simp), if_pos (by rw [e]; rfl)]
      exact ⟨rfl, fun n h => by simp at h; simp; omega⟩
    · rw [if_pos (by simpa using e), if_neg (by simpa using e)]
      cases hi : List.findIdx? (fun c => t.contains c == true) l with
      | none => rw [hi] at h1; exact ⟨by rw [List.length_cons, h1]; rfl, fun n h => by cases h⟩
      | some k => rw [hi] at h1 h2; exact ⟨by rw [List.length_cons, h1]; rfl, fun n h => by
          have := h2 k rfl
          simp at h; simp; omega⟩

set_option maxRecDepth 100000 in
set_option maxHeartbeats 1000000 in
theorem end_lit {w : World} {bm nb no : Nat} {s : ByteArray} {p : Pat} {a : Nat} (h : EndIn w bm nb no s p a) (hk : p.kind = 1) : EndSays w bm nb no a (endAt s.data.toList p a) := by
  obtain ⟨c1, k0, k1, k2, k3, hs, ha, ht⟩ := h
  replace ht := ht hk
  have hlen : s.data.toList.length = s.size := (size_data s).symm
  rw [hk] at k0
  have hE : endAt s.data.toList p a = if Lib.hasPrefix (s.extract a s.size).data.toList p.text.data.toList then some (a + p.text.size) else none := by
    unfold endAt; rw [if_pos hk, drop_extract, size_data]; rfl
  have HC := hidd (fun w => Tryd.strings_HasPrefix (s.extract a s.size) p.text w)
  obtain ⟨t, ht2⟩ : ∃ t, p.text = t := ⟨_, rfl⟩
  rw [ht2] at k1 hE HC ht
  obtain ⟨b, hb⟩ : ∃ b, Lib.hasPrefix (s.extract a s.size).data.toList t.data.toList = b := ⟨_, rfl⟩
  rw [hb] at hE HC
  clear hb hk ht2 hlen
  cases b with
  | true =>
    have HE : Hid (endAt s.data.toList p a = some (a + t.size)) := by rw [Hid, hE]; rfl
    clear hE
    go_enter Tryd.func29, Tryd.ntmps29
    go_wp2_with fail
    go_quiet ((go_at_call 44; exact Calls.quiet_of_same (HC.out _)))
    go_wp2_with fail
    go_ret
    rw [HE.out]
    exact ⟨by first | rfl | (refine ret_int ?_; simp [optInt]; done) | (refine ret_int ?_; simp [optInt]; omega), _, rfl⟩
  | false =>
    have HE : Hid (endAt s.data.toList p a = none) := by rw [Hid, hE]; rfl
    clear hE
    go_enter Tryd.func29, Tryd.ntmps29
    go_wp2_with fail
    go_quiet ((go_at_call 44; exact Calls.quiet_of_same (HC.out _)))
    go_wp2_with fail
    go_ret
    rw [HE.out]
    exact ⟨by first | rfl | (refine ret_int ?_; simp [optInt]; done) | (refine ret_int ?_; simp [optInt]; omega), _, rfl⟩

set_option maxRecDepth 100000 in
set_option maxHeartbeats 1000000 in
theorem end_len {w : World} {bm nb no : Nat} {s : ByteArray} {p : Pat} {a : Nat} (h : EndIn w bm nb no s p a) (hk : p.kind = 2) (hn : 0 ≤ p.n) (hn2 : p.n ≤ 65536) : EndSays w bm nb no a (endAt s.data.toList p a) := by
  obtain ⟨c1, k0, k1, k2, k3, hs, ha, ht⟩ := h
  clear ht
  have hlen : s.data.toList.length = s.size := (size_data s).symm
  rw [hk] at k0
  obtain ⟨N, hN⟩ : ∃ N : Nat, p.n = N := ⟨p.n.toNat, by omega⟩
  have hNum : p.num = N := by unfold Pat.num; rw [hN]; simp
  rw [hN] at k2
  have hN2 : N ≤ 65536 := by omega
  have hE : endAt s.data.toList p a = if a + N ≤ s.size then some (a + N) else none := by
    unfold endAt; rw [if_neg (by rw [hk]; omega), if_pos hk, hNum, hlen]
  clear hn hn2 hN hNum hk hlen
  by_cases hc : a + N ≤ s.size
  · have HE : Hid (endAt s.data.toList p a = some (a + N)) := by rw [Hid, hE, if_pos hc]
    have e1 : decide ((N : Int) ≤ (s.size : Int) - (a : Int)) = true := decide_eq_true (by omega)
    clear hE
    go_enter Tryd.func29, Tryd.ntmps29
    go_wp2_with fail
    go_ret
    rw [HE.out]
    exact ⟨by first | rfl | (refine ret_int ?_; simp [optInt]; done) | (refine ret_int ?_; simp [optInt]; omega), 0, rfl⟩
  · have HE : Hid (endAt s.data.toList p a = none) := by rw [Hid, hE, if_neg hc]
    have e1 : decide ((N : Int) ≤ (s.size : Int) - (a : Int)) = false := decide_eq_false (by omega)
    clear hE hc
    go_enter Tryd.func29, Tryd.ntmps29
    go_wp2_with fail
    go_ret
    rw [HE.out]
    exact ⟨by first | rfl | (refine ret_int ?_; simp [optInt]; done) | (refine ret_int ?_; simp [optInt]; omega), 0, rfl⟩

set_option maxRecDepth 100000 in
set_option maxHeartbeats 1000000 in
theorem end_any' {w : World} {bm nb no : Nat} {s : ByteArray} {p : Pat} {a : Nat} (h : EndIn w bm nb no s p a) (hk : p.kind = 3) : EndSays w bm nb no a (endAt s.data.toList p a) := by
  obtain ⟨c1, k0, k1, k2, k3, hs, ha, ht⟩ := h
  clear ht
  have hlen : s.data.toList.length = s.size := (size_data s).symm
  rw [hk] at k0
  have hE : endAt s.data.toList p a = (match s.data.toList[a]? with | some c => if p.bytes.contains c then some (a + 1) else none | none => none) := by
    unfold endAt; rw [if_neg (by rw [hk]; omega), if_neg (by rw [hk]; omega), if_pos hk]; rfl
  by_cases hc : a < s.size
  · have e0 : s.data.toList[a]? = some s[a] := by rw [List.getElem?_eq_getElem (by rw [hlen]; exact hc)]; rfl
    rw [e0] at hE
    have hb := (s[a]).toNat_lt
    have hia := indexByte_ge p.text.data.toList s[a]
    have HC := hidd (fun w => Tryd.strings_IndexByte p.text ((s[a]).toNat : Int) w)
    rw [byte_back] at HC
    have e1 : decide ((a : Int) < (s.size : Int)) = true := decide_eq_true (by omega)
    obtain ⟨x, hx⟩ : ∃ x, Lib.indexByte p.text.data.toList s[a] = x := ⟨_, rfl⟩
    rw [hx] at HC hia
    obtain ⟨bb, hbb⟩ : ∃ bb, p.bytes.contains s[a] = bb := ⟨_, rfl⟩
    rw [show p.text.data.toList.contains s[a] = bb from hbb] at hia
    dsimp only at hE
    rw [hbb] at hE
    clear hx hbb hk e0 hlen
    cases bb with
    | true =>
      have HE : Hid (endAt s.data.toList p a = some (a + 1)) := by rw [Hid, hE]; rfl
      clear hE
      go_enter Tryd.func29, Tryd.ntmps29
      go_wp2_with fail
      go_quiet ((go_at_call 45; exact Calls.quiet_of_same (HC.out _)))
      go_wp2_with fail
      go_ret
      rw [HE.out]
      exact ⟨by first | rfl | (refine ret_int ?_; simp [optInt]; done) | (refine ret_int ?_; simp [optInt]; omega), _, rfl⟩
    | false =>
      have HE : Hid (endAt s.data.toList p a = none) := by rw [Hid, hE]; rfl
      clear hE
      go_enter Tryd.func29, Tryd.ntmps29
      go_wp2_with fail
      go_quiet ((go_at_call 45; exact Calls.quiet_of_same (HC.out _)))
      go_wp2_with fail
      go_ret
      rw [HE.out]
      exact ⟨by first | rfl | (refine ret_int ?_; simp [optInt]; done) | (refine ret_int ?_; simp [optInt]; omega), _, rfl⟩
  · have e0 : s.data.toList[a]? = none := List.getElem?_eq_none (by rw [hlen]; omega)
    rw [e0] at hE
    have HE : Hid (endAt s.data.toList p a = none) := hE
    have e1 : decide (a < s.size) = false := decide_eq_false hc
    clear hE e0 hc hk hlen
    go_enter Tryd.func29, Tryd.ntmps29
    go_wp2_with fail
    go_quiet (fail)
    go_wp2_with fail
    go_ret
    rw [HE.out]
    exact ⟨by first | rfl | (refine ret_int ?_; simp [optInt]; done) | (refine ret_int ?_; simp [optInt]; omega), _, rfl⟩

set_option maxRecDepth 100000 in
set_option maxHeartbeats 1000000 in
theorem end_notany {w : World} {bm nb no : Nat} {s : ByteArray} {p : Pat} {a : Nat} (h : EndIn w bm nb no s p a) (hk : p.kind = 4) : EndSays w bm nb no a (endAt s.data.toList p a) := by
  obtain ⟨c1, k0, k1, k2, k3, hs, ha, ht⟩ := h
  clear ht
  have hlen : s.data.toList.length = s.size := (size_data s).symm
  rw [hk] at k0
  have hE : endAt s.data.toList p a = (match s.data.toList[a]? with | some c => if p.bytes.contains c then none else some (a + 1) | none => none) := by
    unfold endAt; rw [if_neg (by rw [hk]; omega), if_neg (by rw [hk]; omega), if_neg (by rw [hk]; omega), if_pos hk]; rfl
  by_cases hc : a < s.size
  · have e0 : s.data.toList[a]? = some s[a] := by rw [List.getElem?_eq_getElem (by rw [hlen]; exact hc)]; rfl
    rw [e0] at hE
    have hb := (s[a]).toNat_lt
    have hia := indexByte_ge p.text.data.toList s[a]
    have HC := hidd (fun w => Tryd.strings_IndexByte p.text ((s[a]).toNat : Int) w)
    rw [byte_back] at HC
    have e1 : decide ((a : Int) < (s.size : Int)) = true := decide_eq_true (by omega)
    obtain ⟨x, hx⟩ : ∃ x, Lib.indexByte p.text.data.toList s[a] = x := ⟨_, rfl⟩
    rw [hx] at HC hia
    obtain ⟨bb, hbb⟩ : ∃ bb, p.bytes.contains s[a] = bb := ⟨_, rfl⟩
    rw [show p.text.data.toList.contains s[a] = bb from hbb] at hia
    dsimp only at hE
    rw [hbb] at hE
    clear hx hbb hk e0 hlen
    cases bb with
    | true =>
      have HE : Hid (endAt s.data.toList p a = none) := by rw [Hid, hE]; rfl
      clear hE
      go_enter Tryd.func29, Tryd.ntmps29
      go_wp2_with fail
      go_quiet ((go_at_call 45; exact Calls.quiet_of_same (HC.out _)))
      go_wp2_with fail
      go_ret
      rw [HE.out]
      exact ⟨by first | rfl | (refine ret_int ?_; simp [optInt]; done) | (refine ret_int ?_; simp [optInt]; omega), _, rfl⟩
    | false =>
      have HE : Hid (endAt s.data.toList p a = some (a + 1)) := by rw [Hid, hE]; rfl
      clear hE
      go_enter Tryd.func29, Tryd.ntmps29
      go_wp2_with fail
      go_quiet ((go_at_call 45; exact Calls.quiet_of_same (HC.out _)))
      go_wp2_with fail
      go_ret
      rw [HE.out]
      exact ⟨by first | rfl | (refine ret_int ?_; simp [optInt]; done) | (refine ret_int ?_; simp [optInt]; omega), _, rfl⟩
  · have e0 : s.data.toList[a]? = none := List.getElem?_eq_none (by rw [hlen]; omega)
    rw [e0] at hE
    have HE : Hid (endAt s.data.toList p a = none) := hE
    have e1 : decide (a < s.size) = false := decide_eq_false hc
    clear hE e0 hc hk hlen
    go_enter Tryd.func29, Tryd.ntmps29
    go_wp2_with fail
    go_quiet (fail)
    go_wp2_with fail
    go_ret
    rw [HE.out]
    exact ⟨by first | rfl | (refine ret_int ?_; simp [optInt]; done) | (refine ret_int ?_; simp [optInt]; omega), _, rfl⟩

set_option maxRecDepth 100000 in
set_option maxHeartbeats 1000000 in
theorem end_span {w : World} {bm nb no : Nat} {s : ByteArray} {p : Pat} {a : Nat} (h : EndIn w bm nb no s p a) (hk : p.kind = 5) : EndSays w bm nb no a (endAt s.data.toList p a) := by
  obtain ⟨c1, k0, k1, k2, k3, hs, ha, ht⟩ := h
  clear ht
  have hlen : s.data.toList.length = s.size := (size_data s).symm
  rw [hk] at k0
  have hE : endAt s.data.toList p a = (let n := ((s.data.toList.drop a).takeWhile p.bytes.contains).length; if 0 < n then some (a + n) else none) := by
    unfold endAt; rw [if_neg (by rw [hk]; omega), if_neg (by rw [hk]; omega), if_neg (by rw [hk]; omega), if_neg (by rw [hk]; omega), if_pos hk]
  obtain ⟨hS, hS2⟩ := idx_span p.bytes (s.data.toList.drop a)
  rw [hS] at hE
  have HC := hidd (fun w => index_any (s.extract a s.size) p.text false w (by rw [size_extract_to]; omega))
  rw [drop_extract] at HC
  have hdl : (s.data.toList.drop a).length = s.size - a := by rw [List.length_drop, hlen]
  obtain ⟨o, ho⟩ : ∃ o, idx (s.data.toList.drop a) p.bytes false = o := ⟨_, rfl⟩
  rw [show idx (s.data.toList.drop a) p.text.data.toList false = o from ho] at HC
  rw [ho] at hE hS2
  rw [hdl] at hE hS2
  clear ho hS hk hlen hdl
  cases o with
  | none =>
    dsimp only [optInt] at hE HC
    by_cases h0 : 0 < s.size - a
    · have HE : Hid (endAt s.data.toList p a = some (a + (s.size - a))) := by rw [Hid, hE, if_pos h0]
      have e1 : decide (a < s.size) = true := decide_eq_true (by omega)
      clear hE hS2
      go_enter Tryd.func29, Tryd.ntmps29
      go_wp2_with fail
      go_quiet ((go_at_call 39; exact Calls.quiet_of_same ((HC.out _).mono fun e w' h => ⟨h.1, h.2.symm⟩)))
      go_wp2_with fail
      go_ret
      rw [HE.out]
      exact ⟨by first | rfl | (refine ret_int ?_; simp [optInt]; done) | (refine ret_int ?_; simp [optInt]; omega), _, rfl⟩
    · have HE : Hid (endAt s.data.toList p a = none) := by rw [Hid, hE, if_neg h0]
      have e1 : decide (a < s.size) = false := decide_eq_false (by omega)
      clear hE hS2 h0
      go_enter Tryd.func29, Tryd.ntmps29
      go_wp2_with fail
      go_quiet ((go_at_call 39; exact Calls.quiet_of_same ((HC.out _).mono fun e w' h => ⟨h.1, h.2.symm⟩)))
      go_wp2_with fail
      go_ret
      rw [HE.out]
      exact ⟨by first | rfl | (refine ret_int ?_; simp [optInt]; done) | (refine ret_int ?_; simp [optInt]; omega), _, rfl⟩
  | some n =>
    dsimp only [optInt] at hE HC
    have hn := hS2 n rfl
    have e0 : decide ((n : Int) < 0) = false := decide_eq_false (by omega)
    by_cases h0 : 0 < n
    · have HE : Hid (endAt s.data.toList p a = some (a + n)) := by rw [Hid, hE, if_pos h0]
      have e1 : decide ((0 : Int) < (n : Int)) = true := decide_eq_true (by omega)
      have e2 : decide (0 < n) = true := decide_eq_true h0
      clear hE hS2
      go_enter Tryd.func29, Tryd.ntmps29
      go_wp2_with fail
      go_quiet ((go_at_call 39; exact Calls.quiet_of_same ((HC.out _).mono fun e w' h => ⟨h.1, h.2.symm⟩)))
      go_wp2_with fail
      go_ret
      rw [HE.out]
      exact ⟨by first | rfl | (refine ret_int ?_; simp [optInt]; done) | (refine ret_int ?_; simp [optInt]; omega), _, rfl⟩
    · have HE : Hid (endAt s.data.toList p a = none) := by rw [Hid, hE, if_neg h0]
      obtain rfl : n = 0 := by omega
      clear hE hS2 h0 e0
      go_enter Tryd.func29, Tryd.ntmps29
      go_wp2_with fail
      go_quiet ((go_at_call 39; exact Calls.quiet_of_same ((HC.out _).mono fun e w' h => ⟨h.1, h.2.symm⟩)))
      go_wp2_with fail
      go_ret
      rw [HE.out]
      exact ⟨by first | rfl | (refine ret_int ?_; simp [optInt]; done) | (refine ret_int ?_; simp [optInt]; omega), _, rfl⟩

set_option maxRecDepth 100000 in
set_option maxHeartbeats 1000000 in
theorem end_break {w : World} {bm nb no : Nat} {s : ByteArray} {p : Pat} {a : Nat} (h : EndIn w bm nb no s p a) (hk : p.kind = 6) : EndSays w bm nb no a (endAt s.data.toList p a) := by
  obtain ⟨c1, k0, k1, k2, k3, hs, ha, ht⟩ := h
  clear ht
  have hlen : s.data.toList.length = s.size := (size_data s).symm
  rw [hk] at k0
  have hE : endAt s.data.toList p a = (let n := ((s.data.toList.drop a).takeWhile (fun c => !p.bytes.contains c)).length; if a + n < s.data.toList.length then some (a + n) else none) := by
    unfold endAt; rw [if_neg (by rw [hk]; omega), if_neg (by rw [hk]; omega), if_neg (by rw [hk]; omega), if_neg (by rw [hk]; omega), if_neg (by rw [hk]; omega), if_pos hk]
  obtain ⟨hS, hS2⟩ := idx_break p.bytes (s.data.toList.drop a)
  rw [hS, hlen] at hE
  have HC := hidd (fun w => index_any (s.extract a s.size) p.text true w (by rw [size_extract_to]; omega))
  rw [drop_extract] at HC
  have hdl : (s.data.toList.drop a).length = s.size - a := by rw [List.length_drop, hlen]
  obtain ⟨o, ho⟩ : ∃ o, idx (s.data.toList.drop a) p.bytes true = o := ⟨_, rfl⟩
  rw [show idx (s.data.toList.drop a) p.text.data.toList true = o from ho] at HC
  rw [ho] at hE hS2
  rw [hdl] at hE hS2
  clear ho hS hk hlen hdl
  cases o with
  | none =>
    dsimp only [optInt] at hE HC
    have HE : Hid (endAt s.data.toList p a = none) := by rw [Hid, hE, if_neg (show ¬ a + (s.size - a) < s.size by omega)]
    clear hE hS2
    go_enter Tryd.func29, Tryd.ntmps29
    go_wp2_with fail
    go_quiet ((go_at_call 39; exact Calls.quiet_of_same ((HC.out _).mono fun e w' h => ⟨h.1, h.2.symm⟩)))
    go_wp2_with fail
    go_ret
    rw [HE.out]
    exact ⟨by first | rfl | (refine ret_int ?_; simp [optInt]; done) | (refine ret_int ?_; simp [optInt]; omega), _, rfl⟩
  | some n =>
    dsimp only [optInt] at hE HC
    have hn := hS2 n rfl
    have e0 : decide ((0 : Int) ≤ (n : Int)) = true := decide_eq_true (by omega)
    have HE : Hid (endAt s.data.toList p a = some (a + n)) := by rw [Hid, hE, if_pos (by omega)]
    clear hE hS2
    go_enter Tryd.func29, Tryd.ntmps29
    go_wp2_with fail
    go_quiet ((go_at_call 39; exact Calls.quiet_of_same ((HC.out _).mono fun e w' h => ⟨h.1, h.2.symm⟩)))
    go_wp2_with fail
    go_ret
    rw [HE.out]
    exact ⟨by first | rfl | (refine ret_int ?_; simp [optInt]; done) | (refine ret_int ?_; simp [optInt]; omega), _, rfl⟩

set_option maxRecDepth 100000 in
set_option maxHeartbeats 1000000 in
theorem end_tab {w : World} {bm nb no : Nat} {s : ByteArray} {p : Pat} {a : Nat} (h : EndIn w bm nb no s p a) (hk : p.kind = 8) (hn : 0 ≤ p.n) (hn2 : p.n ≤ 65536) : EndSays w bm nb no a (endAt s.data.toList p a) := by
  obtain ⟨c1, k0, k1, k2, k3, hs, ha, ht⟩ := h
  clear ht
  have hlen : s.data.toList.length = s.size := (size_data s).symm
  rw [hk] at k0
  obtain ⟨N, hN⟩ : ∃ N : Nat, p.n = N := ⟨p.n.toNat, by omega⟩
  have hNum : p.num = N := by unfold Pat.num; rw [hN]; simp
  rw [hN] at k2
  have hN2 : N ≤ 65536 := by omega
  have hE : endAt s.data.toList p a = if a ≤ N ∧ N ≤ s.size then some N else none := by
    unfold endAt
    rw [if_neg (by rw [hk]; omega), if_neg (by rw [hk]; omega), if_neg (by rw [hk]; omega), if_neg (by rw [hk]; omega), if_neg (by rw [hk]; omega), if_neg (by rw [hk]; omega), if_pos hk, hNum, hlen]
  clear hn hn2 hN hNum hk hlen
  by_cases hc : a ≤ N
  · have e1 : decide (a ≤ N) = true := decide_eq_true (by omega)
    by_cases hc2 : N ≤ s.size
    · have HE : Hid (endAt s.data.toList p a = some N) := by rw [Hid, hE, if_pos ⟨hc, hc2⟩]
      have e2 : decide (N ≤ s.size) = true := decide_eq_true (by omega)
      clear hE
      go_enter Tryd.func29, Tryd.ntmps29
      go_wp2_with fail
      go_ret
      rw [HE.out]
      exact ⟨by first | rfl | (refine ret_int ?_; simp [optInt]; done) | (refine ret_int ?_; simp [optInt]; omega), 0, rfl⟩
    · have HE : Hid (endAt s.data.toList p a = none) := by rw [Hid, hE, if_neg (by omega)]
      have e2 : decide (N ≤ s.size) = false := decide_eq_false (by omega)
      clear hE hc2
      go_enter Tryd.func29, Tryd.ntmps29
      go_wp2_with fail
      go_ret
      rw [HE.out]
      exact ⟨by first | rfl | (refine ret_int ?_; simp [optInt]; done) | (refine ret_int ?_; simp [optInt]; omega), 0, rfl⟩
  · have HE : Hid (endAt s.data.toList p a = none) := by rw [Hid, hE, if_neg (by omega)]
    have e1 : decide (a ≤ N) = false := decide_eq_false (by omega)
    clear hE hc
    go_enter Tryd.func29, Tryd.ntmps29
    go_wp2_with fail
    go_ret
    rw [HE.out]
    exact ⟨by first | rfl | (refine ret_int ?_; simp [optInt]; done) | (refine ret_int ?_; simp [optInt]; omega), 0, rfl⟩

set_option maxRecDepth 100000 in
set_option maxHeartbeats 1000000 in
theorem end_rtab {w : World} {bm nb no : Nat} {s : ByteArray} {p : Pat} {a : Nat} (h : EndIn w bm nb no s p a) (hk : p.kind = 9) (hn : 0 ≤ p.n) (hn2 : p.n ≤ 65536) : EndSays w bm nb no a (endAt s.data.toList p a) := by
  obtain ⟨c1, k0, k1, k2, k3, hs, ha, ht⟩ := h
  clear ht
  have hlen : s.data.toList.length = s.size := (size_data s).symm
  rw [hk] at k0
  obtain ⟨N, hN⟩ : ∃ N : Nat, p.n = N := ⟨p.n.toNat, by omega⟩
  have hNum : p.num = N := by unfold Pat.num; rw [hN]; simp
  rw [hN] at k2
  have hN2 : N ≤ 65536 := by omega
  have hE : endAt s.data.toList p a = if a + N ≤ s.size then some (s.size - N) else none := by
    unfold endAt
    rw [if_neg (by rw [hk]; omega), if_neg (by rw [hk]; omega), if_neg (by rw [hk]; omega), if_neg (by rw [hk]; omega), if_neg (by rw [hk]; omega), if_neg (by rw [hk]; omega), if_neg (by rw [hk]; omega), if_pos hk, hNum, hlen]
  clear hn hn2 hN hNum hk hlen
  by_cases hc : a + N ≤ s.size
  · have HE : Hid (endAt s.data.toList p a = some (s.size - N)) := by rw [Hid, hE, if_pos hc]
    have e1 : decide ((a : Int) ≤ (s.size : Int) - (N : Int)) = true := decide_eq_true (by omega)
    clear hE
    go_enter Tryd.func29, Tryd.ntmps29
    go_wp2_with fail
    go_ret
    rw [HE.out]
    exact ⟨by first | rfl | (refine ret_int ?_; simp [optInt]; done) | (refine ret_int ?_; simp [optInt]; omega), 0, rfl⟩
  · have HE : Hid (endAt s.data.toList p a = none) := by rw [Hid, hE, if_neg hc]
    have e1 : decide ((a : Int) ≤ (s.size : Int) - (N : Int)) = false := decide_eq_false (by omega)
    clear hE hc
    go_enter Tryd.func29, Tryd.ntmps29
    go_wp2_with fail
    go_ret
    rw [HE.out]
    exact ⟨by first | rfl | (refine ret_int ?_; simp [optInt]; done) | (refine ret_int ?_; simp [optInt]; omega), 0, rfl⟩

set_option maxRecDepth 100000 in
set_option maxHeartbeats 1000000 in
theorem end_pos {w : World} {bm nb no : Nat} {s : ByteArray} {p : Pat} {a : Nat} (h : EndIn w bm nb no s p a) (hk : p.kind = 10) (hn : 0 ≤ p.n) (hn2 : p.n ≤ 65536) : EndSays w bm nb no a (endAt s.data.toList p a) := by
  obtain ⟨c1, k0, k1, k2, k3, hs, ha, ht⟩ := h
  clear ht
  have hlen : s.data.toList.length = s.size := (size_data s).symm
  rw [hk] at k0
  obtain ⟨N, hN⟩ : ∃ N : Nat, p.n = N := ⟨p.n.toNat, by omega⟩
  have hNum : p.num = N := by unfold Pat.num; rw [hN]; simp
  rw [hN] at k2
  have hN2 : N ≤ 65536 := by omega
  have hE : endAt s.data.toList p a = if a = N then some a else none := by
    unfold endAt
    rw [if_neg (by rw [hk]; omega), if_neg (by rw [hk]; omega), if_neg (by rw [hk]; omega), if_neg (by rw [hk]; omega), if_neg (by rw [hk]; omega), if_neg (by rw [hk]; omega), if_neg (by rw [hk]; omega), if_neg (by rw [hk]; omega), if_pos hk, hNum]
  clear hn hn2 hN hNum hk hlen
  by_cases hc : a = N
  · have HE : Hid (endAt s.data.toList p a = some a) := by rw [Hid, hE, if_pos hc]
    have e1 : (((a : Int) == (N : Int)) = true) := by rw [beq_iff_eq]; omega
    clear hE hc
    go_enter Tryd.func29, Tryd.ntmps29
    go_wp2_with fail
    go_ret
    rw [HE.out]
    exact ⟨by first | rfl | (refine ret_int ?_; simp [optInt]; done) | (refine ret_int ?_; simp [optInt]; omega), 0, rfl⟩
  · have HE : Hid (endAt s.data.toList p a = none) := by rw [Hid, hE, if_neg hc]
    have e1 : (((a : Int) == (N : Int)) = false) := beq_eq_false_iff_ne.2 (by omega)
    have e2 : (((a : Int) == (s.size : Int) - (N : Int)) = true) ∨ (((a : Int) == (s.size : Int) - (N : Int)) = false) := by cases ((a : Int) == (s.size : Int) - (N : Int)) <;> simp
    clear hE hc
    rcases e2 with e2 | e2
    all_goals
      go_enter Tryd.func29, Tryd.ntmps29
      go_wp2_with fail
      go_ret
      rw [HE.out]
      exact ⟨by first | rfl | (refine ret_int ?_; simp [optInt]; done) | (refine ret_int ?_; simp [optInt]; omega), 0, rfl⟩

set_option maxRecDepth 100000 in
set_option maxHeartbeats 1000000 in
theorem end_rpos {w : World} {bm nb no : Nat} {s : ByteArray} {p : Pat} {a : Nat} (h : EndIn w bm nb no s p a) (hk : p.kind = 11) (hn : 0 ≤ p.n) (hn2 : p.n ≤ 65536) : EndSays w bm nb no a (endAt s.data.toList p a) := by
  obtain ⟨c1, k0, k1, k2, k3, hs, ha, ht⟩ := h
  clear ht
  have hlen : s.data.toList.length = s.size := (size_data s).symm
  rw [hk] at k0
  obtain ⟨N, hN⟩ : ∃ N : Nat, p.n = N := ⟨p.n.toNat, by omega⟩
  have hNum : p.num = N := by unfold Pat.num; rw [hN]; simp
  rw [hN] at k2
  have hN2 : N ≤ 65536 := by omega
  have hE : endAt s.data.toList p a = if a + N = s.size then some a else none := by
    unfold endAt
    rw [if_neg (by rw [hk]; omega), if_neg (by rw [hk]; omega), if_neg (by rw [hk]; omega), if_neg (by rw [hk]; omega), if_neg (by rw [hk]; omega), if_neg (by rw [hk]; omega), if_neg (by rw [hk]; omega), if_neg (by rw [hk]; omega), if_neg (by rw [hk]; omega), if_pos hk, hNum, hlen]
  clear hn hn2 hN hNum hk hlen
  have e1 : (((a : Int) == (N : Int)) = true) ∨ (((a : Int) == (N : Int)) = false) := by cases ((a : Int) == (N : Int)) <;> simp
  by_cases hc : a + N = s.size
  · have HE : Hid (endAt s.data.toList p a = some a) := by rw [Hid, hE, if_pos hc]
    have e2 : (((a : Int) == (s.size : Int) - (N : Int)) = true) := by rw [beq_iff_eq]; omega
    clear hE hc
    rcases e1 with e1 | e1
    all_goals
      go_enter Tryd.func29, Tryd.ntmps29
      go_wp2_with fail
      go_ret
      rw [HE.out]
      exact ⟨by first | rfl | (refine ret_int ?_; simp [optInt]; done) | (refine ret_int ?_; simp [optInt]; omega), 0, rfl⟩
  · have HE : Hid (endAt s.data.toList p a = none) := by rw [Hid, hE, if_neg hc]
    have e2 : (((a : Int) == (s.size : Int) - (N : Int)) = false) := beq_eq_false_iff_ne.2 (by omega)
    clear hE hc
    rcases e1 with e1 | e1
    all_goals
      go_enter Tryd.func29, Tryd.ntmps29
      go_wp2_with fail
      go_ret
      rw [HE.out]
      exact ⟨by first | rfl | (refine ret_int ?_; simp [optInt]; done) | (refine ret_int ?_; simp [optInt]; omega), 0, rfl⟩

set_option maxRecDepth 100000 in
set_option maxHeartbeats 1000000 in
theorem end_rem {w : World} {bm nb no : Nat} {s : ByteArray} {p : Pat} {a : Nat} (h : EndIn w bm nb no s p a) (hk : p.kind = 12) : EndSays w bm nb no a (endAt s.data.toList p a) := by
  obtain ⟨c1, k0, k1, k2, k3, hs, ha, ht⟩ := h
  clear ht
  have hlen : s.data.toList.length = s.size := (size_data s).symm
  rw [hk] at k0
  have HE : Hid (endAt s.data.toList p a = some s.size) := by
    rw [Hid]; unfold endAt
    rw [if_neg (by rw [hk]; omega), if_neg (by rw [hk]; omega), if_neg (by rw [hk]; omega), if_neg (by rw [hk]; omega), if_neg (by rw [hk]; omega), if_neg (by rw [hk]; omega), if_neg (by rw [hk]; omega), if_neg (by rw [hk]; omega), if_neg (by rw [hk]; omega), if_neg (by rw [hk]; omega), if_pos hk, hlen]
  clear hk hlen
  go_enter Tryd.func29, Tryd.ntmps29
  go_wp2_with fail
  go_ret
  rw [HE.out]
  exact ⟨by first | rfl | (refine ret_int ?_; simp [optInt]; done) | (refine ret_int ?_; simp [optInt]; omega), 0, rfl⟩

set_option maxRecDepth 100000 in
set_option maxHeartbeats 1000000 in
theorem end_fail {w : World} {bm nb no : Nat} {s : ByteArray} {p : Pat} {a : Nat} (h : EndIn w bm nb no s p a) (hk : p.kind = 15) : EndSays w bm nb no a (endAt s.data.toList p a) := by
  obtain ⟨c1, k0, k1, k2, k3, hs, ha, ht⟩ := h
  clear ht
  have hlen : s.data.toList.length = s.size := (size_data s).symm
  rw [hk] at k0
  have HE : Hid (endAt s.data.toList p a = none) := by
    rw [Hid]; unfold endAt
    rw [if_neg (by rw [hk]; omega), if_neg (by rw [hk]; omega), if_neg (by rw [hk]; omega), if_neg (by rw [hk]; omega), if_neg (by rw [hk]; omega), if_neg (by rw [hk]; omega), if_neg (by rw [hk]; omega), if_neg (by rw [hk]; omega), if_neg (by rw [hk]; omega), if_neg (by rw [hk]; omega), if_neg (by rw [hk]; omega)]
  clear hk hlen
  go_enter Tryd.func29, Tryd.ntmps29
  go_wp2_with fail
  go_ret
  rw [HE.out]
  exact ⟨by first | rfl | (refine ret_int ?_; simp [optInt]; done) | (refine ret_int ?_; simp [optInt]; omega), 0, rfl⟩
end Go.Proofs.YtmkldfjcpmoajabDoor
