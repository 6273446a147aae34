/- scan.index and scan.pairs: at every text. -/
import Derived.Test.YtkkdpafkafjfgaaDoorWwScWrong
import Derived.Test.YtkkdpafkafjfgaaDoorWwScTr
import Derived.Test.YtkkdpafkafjfgaaDoorWwShelfW
import Derived.Lib.ItoaWalk
import Derived.Test.YtkkdpafkafjfgaaDoorWwScMac
import Derived.BigQuiet
import Derived.Deep.QuietTactic
import Derived.Lib.LaidTab
import Derived.Shelf.Unicode.PredsPay
namespace Go.Proofs.YtkkdpafkafjfgaaDoor
open Go.RowKit
set_option linter.unusedVariables false
theorem indexByte_has : ∀ (l : List UInt8) (c : UInt8), (l.contains c = true ∧ 0 ≤ Lib.indexByte l c) ∨ (l.contains c = false ∧ Lib.indexByte l c = -1)
  | [], c => Or.inr ⟨rfl, rfl⟩
  | b :: l, c => by
    by_cases e : b = c
    · subst e; exact Or.inl ⟨by simp, by simp [Lib.indexByte]⟩
    · have e2 : (b == c) = false := beq_eq_false_iff_ne.2 e
      have e3 : (b :: l).contains c = l.contains c := by simp [Ne.symm e]
      rw [e3]
      rcases indexByte_has l c with ⟨h1, h2⟩ | ⟨h1, h2⟩
      · refine Or.inl ⟨h1, ?_⟩
        rw [Lib.indexByte, if_neg (by rw [e2]; simp), if_neg (by rw [beq_iff_eq]; omega)]; omega
      · refine Or.inr ⟨h1, ?_⟩
        rw [Lib.indexByte, if_neg (by rw [e2]; simp), if_pos (by rw [h2]; rfl)]
theorem indexByte_ge (l : List UInt8) (c : UInt8) : decide (0 ≤ Lib.indexByte l c) = l.contains c := by
  rcases indexByte_has l c with ⟨h1, h2⟩ | ⟨h1, h2⟩
  · rw [h1]; simpa using h2
  · rw [h1, h2]; rfl
theorem byte_back (c : UInt8) : (c.toNat : Int).toNat.toUInt8 = c := by simp
set_option maxRecDepth 100000 in
theorem index_any (s t : ByteArray) (b : Bool) (w : World) (hs : s.size ≤ 65536) :
    Calls Tryd.prog 116 #[.string s, .string t, .bool b] w fun e w' => e = .returned (.int .i64 (optInt (idx s.data.toList t.data.toList b))) ∧ w = w' := by
  have hl : s.data.toList.length = s.size := (size_data s).symm
  have HL := hidd hl
  clear hl
  go_enter Tryd.func116, Tryd.ntmps116
  go_wp2_with fail
  go_loop [7, 10] (fun _ u => ∃ k : Nat, k ≤ s.size ∧ u = .int .i64 k ∧ Hid (∀ j, j < k → (t.data.toList.contains (s.data.toList.getD j 0) == b) = false)) (fun _ u => s.size - (intOf u).toNat)
  case atStart => exact ⟨0, by omega, rfl, fun j hj => absurd hj (by omega)⟩
  case round =>
    obtain ⟨k, hk, rfl, HN⟩ := hrel
    by_cases hlt : k < s.size
    · have e1 : s.data.toList.getD k 0 = s[k] := (Lib.getD_at s k hlt).symm
      have hb := (s[k]).toNat_lt
      have HC := hidd (fun w => Tryd.strings_IndexByte t ((s[k]).toNat : Int) w)
      rw [byte_back] at HC
      have HG := hidd (indexByte_ge t.data.toList s[k])
      obtain ⟨x, hx⟩ : ∃ x, Lib.indexByte t.data.toList s[k] = x := ⟨_, rfl⟩
      rw [hx] at HC HG
      have HT : Hid ((decide (0 ≤ x) == b) = true → idx s.data.toList t.data.toList b = some k) := fun h => findIdx_hit 0 _ _ k (by rw [HL.out]; exact hlt) (by rw [e1, ← HG.out]; exact h) HN.out
      have HT2 : Hid ((decide (0 ≤ x) == b) = false → ∀ j, j < k + 1 → (t.data.toList.contains (s.data.toList.getD j 0) == b) = false) := fun h j hj => by
        by_cases e2 : j = k
        · rw [e2, e1, ← HG.out]; exact h
        · exact HN.out j (by omega)
      clear e1 hx HG
      have hxc : decide (0 ≤ x) = true ∨ decide (0 ≤ x) = false := by cases decide (0 ≤ x) <;> simp
      rcases hxc with hxc | hxc
      all_goals
        rw [hxc] at HT HT2
        cases b
        all_goals
          go_wp2_with fail
          refine (HC.out _).mono ?_; rintro e w2 ⟨rfl, rfl⟩
          go_wp2_with fail
          first
          | (go_ret
             rw [HT.out (by first | rfl | trivial)]
             exact ⟨rfl, rfl⟩)
          | (go_round
             case rel => exact ⟨k + 1, by omega, by go_num, HT2.out (by first | rfl | trivial)⟩
             case measure => simp [intOf]; omega)
    · obtain rfl : k = s.size := by omega
      have HE : Hid (idx s.data.toList t.data.toList b = none) := findIdx_no 0 _ _ (fun j hj => HN.out j (by rw [← HL.out]; exact hj))
      go_wp2_with fail
      go_ret
      rw [HE.out]
      exact ⟨rfl, rfl⟩
theorem pairLen_more (c : UInt8) (l : List UInt8) (d k : Nat) : (pairLen (c :: l) d).map (· + k) =
    if c = 40 then (pairLen l (d + 1)).map (· + (k + 1)) else if c = 41 then (if d = 0 then none else if d = 1 then some (k + 1) else (pairLen l (d - 1)).map (· + (k + 1)))
    else if d = 0 then some (k + 1) else (pairLen l d).map (· + (k + 1)) := by
  have e : ∀ o : Option Nat, (o.map (· + 1)).map (· + k) = o.map (· + (k + 1)) := by
    intro o; cases o with
    | none => rfl
    | some x => simp; omega
  rw [pairLen.eq_def]
  dsimp only
  split
  · exact e _
  split
  · match d with
    | 0 => rfl
    | 1 => simp; omega
    | d + 2 => rw [if_neg (by omega), if_neg (by omega)]; exact e _
  split
  · simp; omega
  · exact e _
set_option maxRecDepth 100000 in
theorem pairs_any (s : ByteArray) (w : World) (hs : s.size ≤ 65536) :
    Calls Tryd.prog 117 #[.string s] w fun e w' => e = .returned (.int .i64 (optInt (pairLen s.data.toList 0))) ∧ w = w' := by
  have hl : s.data.toList.length = s.size := (size_data s).symm
  obtain ⟨X, hX⟩ : ∃ X, pairLen s.data.toList 0 = X := ⟨_, rfl⟩
  rw [hX]
  have HX : Hid ((pairLen (s.data.toList.drop 0) 0).map (· + 0) = X) := by rw [Hid, List.drop_zero, hX]; cases X <;> rfl
  clear hX
  have HL := hidd hl
  clear hl
  go_enter Tryd.func117, Tryd.ntmps117
  go_wp2_with fail
  go_loop [3, 4, 7, 13, 17] (fun d _ u _ _ => ∃ k dd : Nat, k ≤ s.size ∧ dd ≤ k ∧ u = .int .i64 k ∧ d = .int .i64 dd ∧ Hid ((pairLen (s.data.toList.drop k) dd).map (· + k) = X)) (fun _ _ u _ _ => s.size - (intOf u).toNat)
  case atStart => exact ⟨0, 0, by omega, by omega, rfl, rfl, HX⟩
  case round =>
    obtain ⟨k, dd, hk, hdd, rfl, rfl, HR⟩ := hrel
    by_cases hlt : k < s.size
    · have e1 : s.data.toList.drop k = s[k] :: s.data.toList.drop (k + 1) := by
        rw [List.drop_eq_getElem_cons (by rw [HL.out]; exact hlt)]; rfl
      have hb := (s[k]).toNat_lt
      have HR2 := HR.out
      rw [e1, pairLen_more] at HR2
      clear e1 HX
      by_cases h40 : (s[k]).toNat = 40
      · have g1 : (((s[k]).toNat : Int) == 40) = true := by rw [beq_iff_eq]; omega
        rw [if_pos (by rw [← UInt8.toNat_inj]; exact h40)] at HR2
        have H2 := hidd HR2
        have z1 : (((dd : Int) + 1 == 0) = false) := beq_eq_false_iff_ne.2 (by omega)
        clear HR2 h40
        go_wp2_with fail
        go_round
        case rel => exact ⟨k + 1, dd + 1, by omega, by omega, by go_num, by go_num, H2⟩
        case measure => simp [intOf]; omega
      have g1 : (((s[k]).toNat : Int) == 40) = false := beq_eq_false_iff_ne.2 (by omega)
      rw [if_neg (by rw [← UInt8.toNat_inj]; exact h40)] at HR2
      by_cases h41 : (s[k]).toNat = 41
      · have g2 : (((s[k]).toNat : Int) == 41) = true := by rw [beq_iff_eq]; omega
        rw [if_pos (by rw [← UInt8.toNat_inj]; exact h41)] at HR2
        clear h41 h40
        have hd3 : dd = 0 ∨ dd = 1 ∨ 2 ≤ dd := by omega
        rcases hd3 with hd | hd | hd
        · rw [if_pos hd] at HR2
          subst hd
          have H2 := hidd HR2
          clear HR2
          go_wp2_with fail
          go_ret
          rw [← H2.out]
          exact ⟨rfl, rfl⟩
        · rw [if_neg (by omega), if_pos hd] at HR2
          subst hd
          have H2 := hidd HR2
          clear HR2
          go_wp2_with fail
          go_ret
          rw [← H2.out]
          exact ⟨by simp [optInt], rfl⟩
        · rw [if_neg (by omega), if_neg (by omega)] at HR2
          obtain ⟨q, rfl⟩ : ∃ q, dd = q + 2 := ⟨dd - 2, by omega⟩
          have H2 := hidd HR2
          have ei : (((q + 2 : Nat) : Int) - 1) = ((q + 1 : Nat) : Int) := by omega
          have z1 : ((((q + 1 : Nat) : Int) == 0) = false) := beq_eq_false_iff_ne.2 (by omega)
          clear HR2
          go_wp2_with fail
          go_round
          case rel => exact ⟨k + 1, q + 1, by omega, by omega, by go_num, by first | rfl | (congr 1 <;> omega) | (simp <;> omega), H2⟩
          case measure => simp [intOf]; omega
      have g2 : (((s[k]).toNat : Int) == 41) = false := beq_eq_false_iff_ne.2 (by omega)
      rw [if_neg (by rw [← UInt8.toNat_inj]; exact h41)] at HR2
      clear h41 h40
      by_cases hd : dd = 0
      · rw [if_pos hd] at HR2
        subst hd
        have H2 := hidd HR2
        clear HR2
        go_wp2_with fail
        go_ret
        rw [← H2.out]
        exact ⟨by simp [optInt], rfl⟩
      · rw [if_neg hd] at HR2
        have H2 := hidd HR2
        have z1 : (((dd : Int) == 0) = false) := beq_eq_false_iff_ne.2 (by omega)
        clear HR2
        go_wp2_with fail
        go_round
        case rel => exact ⟨k + 1, dd, by omega, by omega, by go_num, rfl, H2⟩
        case measure => simp [intOf]; omega
    · obtain rfl : k = s.size := by omega
      have HE : Hid (X = none) := by rw [Hid, ← HR.out, List.drop_of_length_le (by rw [HL.out]; exact Nat.le_refl _)]; rfl
      go_wp2_with fail
      go_ret
      rw [HE.out]
      exact ⟨rfl, rfl⟩
end Go.Proofs.YtkkdpafkafjfgaaDoor
namespace Go.Proofs.YtkkdpafkafjfgaaDoor
open Go.RowKit
set_option linter.unusedVariables false
def Ends (X : Far) (w0 : World) (bm : Nat) (rv : Value) (s : ByteArray) (fuel : Nat) (w : World) (r : Option Nat × MS) (e : Ending) (w' : World) : Prop :=
  e = .returned (.int .i64 (optInt r.1)) ∧ MacRep X w0 bm rv s fuel r.2 w' ∧ Keep w w'
structure EndIn (w : World) (bm nb no : Nat) (s : ByteArray) (p : Pat) (a : Nat) : Prop where
  c1 : w.cell? ⟨bm, 1, none⟩ = some (.string s)
  k0 : w.cell? ⟨nb, no, none⟩ = some (.int .i64 p.kind)
  k1 : w.cell? ⟨nb, no + 1, none⟩ = some (.string p.text)
  k2 : w.cell? ⟨nb, no + 2, none⟩ = some (.int .i64 p.n)
  k3 : w.cell? ⟨nb, no + 3, none⟩ = some (.string p.name)
  hs : s.size ≤ 65536
  ha : a ≤ s.size
  ht : p.kind = 1 → p.text.size ≤ 65536
abbrev EndSays (w : World) (bm nb no a : Nat) (x : Option Nat) : Prop :=
  Calls Tryd.prog 94 #[.pointer (some ⟨bm, 0, none⟩), .pointer (some ⟨nb, no, none⟩), .int .i64 a] w fun e w' => e = .returned (.int .i64 (optInt x)) ∧ ∃ n, w' = w.drewN n
theorem drop_extract (s : ByteArray) (a : Nat) : (s.extract a s.size).data.toList = s.data.toList.drop a := by
  rw [Lib.extract_data, List.take_of_length_le (by rw [List.length_drop, ← size_data]; exact Nat.le_refl _)]
theorem size_extract_to (s : ByteArray) (a : Nat) : (s.extract a s.size).size = s.size - a := by
  rw [size_data, drop_extract, List.length_drop, ← size_data]
theorem idx_span (t : List UInt8) : ∀ (l : List UInt8), (l.takeWhile t.contains).length = (match idx l t false with | some n => n | none => l.length) ∧ (∀ n, idx l t false = some n → n < l.length)
  | [] => ⟨rfl, fun n h => by cases h⟩
  | c :: l => by
    obtain ⟨h1, h2⟩ := idx_span t l
    unfold idx at h1 h2 ⊢
    rw [List.findIdx?_cons, List.takeWhile_cons]
    by_cases e : t.contains c = true
    · rw [if_pos e, if_neg (by rw [e]; simp)]
      cases hi : List.findIdx? (fun c => t.contains c == false) l with
      | none => rw [hi] at h1; exact ⟨by rw [List.length_cons, h1]; rfl, fun n h => by cases h⟩
      | some k => rw [hi] at h1 h2; exact ⟨by rw [List.length_cons, h1]; rfl, fun n h => by
          have := h2 k rfl
          simp at h; simp; omega⟩
    · rw [if_neg e, if_pos (by simpa using e)]
      exact ⟨rfl, fun n h => by simp at h; simp; omega⟩
theorem idx_break (t : List UInt8) : ∀ (l : List UInt8), (l.takeWhile (fun c => !t.contains c)).length = (match idx l t true with | some n => n | none => l.length) ∧ (∀ n, idx l t true = some n → n < l.length)
  | [] => ⟨rfl, fun n h => by cases h⟩
  | c :: l => by
    obtain ⟨h1, h2⟩ := idx_break t l
    unfold idx at h1 h2 ⊢
    rw [List.findIdx?_cons, List.takeWhile_cons]
    by_cases e : t.contains c = true
    · rw [if_neg (by rw [e]; simp), if_pos (by rw [e]; rfl)]
      exact ⟨rfl, fun n h => by simp at h; simp; omega⟩
    · rw [if_pos (by simpa using e), if_neg (by simpa using e)]
      cases hi : List.findIdx? (fun c => t.contains c == true) l with
      | none => rw [hi] at h1; exact ⟨by rw [List.length_cons, h1]; rfl, fun n h => by cases h⟩
      | some k => rw [hi] at h1 h2; exact ⟨by rw [List.length_cons, h1]; rfl, fun n h => by
          have := h2 k rfl
          simp at h; simp; omega⟩
set_option maxRecDepth 100000 in
set_option maxHeartbeats 1000000 in
theorem end_lit {w : World} {bm nb no : Nat} {s : ByteArray} {p : Pat} {a : Nat} (h : EndIn w bm nb no s p a) (hk : p.kind = 1) : EndSays w bm nb no a (endAt s.data.toList p a) := by
  obtain ⟨c1, k0, k1, k2, k3, hs, ha, ht⟩ := h
  replace ht := ht hk
  have hlen : s.data.toList.length = s.size := (size_data s).symm
  rw [hk] at k0
  have hE : endAt s.data.toList p a = if Lib.hasPrefix (s.extract a s.size).data.toList p.text.data.toList then some (a + p.text.size) else none := by
    unfold endAt; rw [if_pos hk, drop_extract, size_data]; rfl
  have HC := hidd (fun w => Tryd.strings_HasPrefix (s.extract a s.size) p.text w)
  obtain ⟨t, ht2⟩ : ∃ t, p.text = t := ⟨_, rfl⟩
  rw [ht2] at k1 hE HC ht
  obtain ⟨b, hb⟩ : ∃ b, Lib.hasPrefix (s.extract a s.size).data.toList t.data.toList = b := ⟨_, rfl⟩
  rw [hb] at hE HC
  clear hb hk ht2 hlen
  cases b with
  | true =>
    have HE : Hid (endAt s.data.toList p a = some (a + t.size)) := by rw [Hid, hE]; rfl
    clear hE
    go_enter Tryd.func94, Tryd.ntmps94
    go_wp2_with fail
    go_quiet ((go_at_call 121; exact Calls.quiet_of_same (HC.out _)))
    go_wp2_with fail
    go_ret
    rw [HE.out]
    exact ⟨by first | rfl | (refine ret_int ?_; simp [optInt]; done) | (refine ret_int ?_; simp [optInt]; omega), _, rfl⟩
  | false =>
    have HE : Hid (endAt s.data.toList p a = none) := by rw [Hid, hE]; rfl
    clear hE
    go_enter Tryd.func94, Tryd.ntmps94
    go_wp2_with fail
    go_quiet ((go_at_call 121; exact Calls.quiet_of_same (HC.out _)))
    go_wp2_with fail
    go_ret
    rw [HE.out]
    exact ⟨by first | rfl | (refine ret_int ?_; simp [optInt]; done) | (refine ret_int ?_; simp [optInt]; omega), _, rfl⟩
set_option maxRecDepth 100000 in
set_option maxHeartbeats 1000000 in
theorem end_len {w : World} {bm nb no : Nat} {s : ByteArray} {p : Pat} {a : Nat} (h : EndIn w bm nb no s p a) (hk : p.kind = 2) (hn : 0 ≤ p.n) (hn2 : p.n ≤ 65536) : EndSays w bm nb no a (endAt s.data.toList p a) := by
  obtain ⟨c1, k0, k1, k2, k3, hs, ha, ht⟩ := h
  clear ht
  have hlen : s.data.toList.length = s.size := (size_data s).symm
  rw [hk] at k0
  obtain ⟨N, hN⟩ : ∃ N : Nat, p.n = N := ⟨p.n.toNat, by omega⟩
  have hNum : p.num = N := by unfold Pat.num; rw [hN]; simp
  rw [hN] at k2
  have hN2 : N ≤ 65536 := by omega
  have hE : endAt s.data.toList p a = if a + N ≤ s.size then some (a + N) else none := by
    unfold endAt; rw [if_neg (by rw [hk]; omega), if_pos hk, hNum, hlen]
  clear hn hn2 hN hNum hk hlen
  by_cases hc : a + N ≤ s.size
  · have HE : Hid (endAt s.data.toList p a = some (a + N)) := by rw [Hid, hE, if_pos hc]
    have e1 : decide ((N : Int) ≤ (s.size : Int) - (a : Int)) = true := decide_eq_true (by omega)
    clear hE
    go_enter Tryd.func94, Tryd.ntmps94
    go_wp2_with fail
    go_ret
    rw [HE.out]
    exact ⟨by first | rfl | (refine ret_int ?_; simp [optInt]; done) | (refine ret_int ?_; simp [optInt]; omega), 0, rfl⟩
  · have HE : Hid (endAt s.data.toList p a = none) := by rw [Hid, hE, if_neg hc]
    have e1 : decide ((N : Int) ≤ (s.size : Int) - (a : Int)) = false := decide_eq_false (by omega)
    clear hE hc
    go_enter Tryd.func94, Tryd.ntmps94
    go_wp2_with fail
    go_ret
    rw [HE.out]
    exact ⟨by first | rfl | (refine ret_int ?_; simp [optInt]; done) | (refine ret_int ?_; simp [optInt]; omega), 0, rfl⟩
set_option maxRecDepth 100000 in
set_option maxHeartbeats 1000000 in
theorem end_any' {w : World} {bm nb no : Nat} {s : ByteArray} {p : Pat} {a : Nat} (h : EndIn w bm nb no s p a) (hk : p.kind = 3) : EndSays w bm nb no a (endAt s.data.toList p a) := by
  obtain ⟨c1, k0, k1, k2, k3, hs, ha, ht⟩ := h
  clear ht
  have hlen : s.data.toList.length = s.size := (size_data s).symm
  rw [hk] at k0
  have hE : endAt s.data.toList p a = (match s.data.toList[a]? with | some c => if p.bytes.contains c then some (a + 1) else none | none => none) := by
    unfold endAt; rw [if_neg (by rw [hk]; omega), if_neg (by rw [hk]; omega), if_pos hk]; rfl
  by_cases hc : a < s.size
  · have e0 : s.data.toList[a]? = some s[a] := by rw [List.getElem?_eq_getElem (by rw [hlen]; exact hc)]; rfl
    rw [e0] at hE
    have hb := (s[a]).toNat_lt
    have hia := indexByte_ge p.text.data.toList s[a]
    have HC := hidd (fun w => Tryd.strings_IndexByte p.text ((s[a]).toNat : Int) w)
    rw [byte_back] at HC
    have e1 : decide ((a : Int) < (s.size : Int)) = true := decide_eq_true (by omega)
    obtain ⟨x, hx⟩ : ∃ x, Lib.indexByte p.text.data.toList s[a] = x := ⟨_, rfl⟩
    rw [hx] at HC hia
    obtain ⟨bb, hbb⟩ : ∃ bb, p.bytes.contains s[a] = bb := ⟨_, rfl⟩
    rw [show p.text.data.toList.contains s[a] = bb from hbb] at hia
    dsimp only at hE
    rw [hbb] at hE
    clear hx hbb hk e0 hlen
    cases bb with
    | true =>
      have HE : Hid (endAt s.data.toList p a = some (a + 1)) := by rw [Hid, hE]; rfl
      clear hE
      go_enter Tryd.func94, Tryd.ntmps94
      go_wp2_with fail
      go_quiet ((go_at_call 122; exact Calls.quiet_of_same (HC.out _)))
      go_wp2_with fail
      go_ret
      rw [HE.out]
      exact ⟨by first | rfl | (refine ret_int ?_; simp [optInt]; done) | (refine ret_int ?_; simp [optInt]; omega), _, rfl⟩
    | false =>
      have HE : Hid (endAt s.data.toList p a = none) := by rw [Hid, hE]; rfl
      clear hE
      go_enter Tryd.func94, Tryd.ntmps94
      go_wp2_with fail
      go_quiet ((go_at_call 122; exact Calls.quiet_of_same (HC.out _)))
      go_wp2_with fail
      go_ret
      rw [HE.out]
      exact ⟨by first | rfl | (refine ret_int ?_; simp [optInt]; done) | (refine ret_int ?_; simp [optInt]; omega), _, rfl⟩
  · have e0 : s.data.toList[a]? = none := List.getElem?_eq_none (by rw [hlen]; omega)
    rw [e0] at hE
    have HE : Hid (endAt s.data.toList p a = none) := hE
    have e1 : decide (a < s.size) = false := decide_eq_false hc
    clear hE e0 hc hk hlen
    go_enter Tryd.func94, Tryd.ntmps94
    go_wp2_with fail
    go_quiet (fail)
    go_wp2_with fail
    go_ret
    rw [HE.out]
    exact ⟨by first | rfl | (refine ret_int ?_; simp [optInt]; done) | (refine ret_int ?_; simp [optInt]; omega), _, rfl⟩
set_option maxRecDepth 100000 in
set_option maxHeartbeats 1000000 in
theorem end_notany {w : World} {bm nb no : Nat} {s : ByteArray} {p : Pat} {a : Nat} (h : EndIn w bm nb no s p a) (hk : p.kind = 4) : EndSays w bm nb no a (endAt s.data.toList p a) := by
  obtain ⟨c1, k0, k1, k2, k3, hs, ha, ht⟩ := h
  clear ht
  have hlen : s.data.toList.length = s.size := (size_data s).symm
  rw [hk] at k0
  have hE : endAt s.data.toList p a = (match s.data.toList[a]? with | some c => if p.bytes.contains c then none else some (a + 1) | none => none) := by
    unfold endAt; rw [if_neg (by rw [hk]; omega), if_neg (by rw [hk]; omega), if_neg (by rw [hk]; omega), if_pos hk]; rfl
  by_cases hc : a < s.size
  · have e0 : s.data.toList[a]? = some s[a] := by rw [List.getElem?_eq_getElem (by rw [hlen]; exact hc)]; rfl
    rw [e0] at hE
    have hb := (s[a]).toNat_lt
    have hia := indexByte_ge p.text.data.toList s[a]
    have HC := hidd (fun w => Tryd.strings_IndexByte p.text ((s[a]).toNat : Int) w)
    rw [byte_back] at HC
    have e1 : decide ((a : Int) < (s.size : Int)) = true := decide_eq_true (by omega)
    obtain ⟨x, hx⟩ : ∃ x, Lib.indexByte p.text.data.toList s[a] = x := ⟨_, rfl⟩
    rw [hx] at HC hia
    obtain ⟨bb, hbb⟩ : ∃ bb, p.bytes.contains s[a] = bb := ⟨_, rfl⟩
    rw [show p.text.data.toList.contains s[a] = bb from hbb] at hia
    dsimp only at hE
    rw [hbb] at hE
    clear hx hbb hk e0 hlen
    cases bb with
    | true =>
      have HE : Hid (endAt s.data.toList p a = none) := by rw [Hid, hE]; rfl
      clear hE
      go_enter Tryd.func94, Tryd.ntmps94
      go_wp2_with fail
      go_quiet ((go_at_call 122; exact Calls.quiet_of_same (HC.out _)))
      go_wp2_with fail
      go_ret
      rw [HE.out]
      exact ⟨by first | rfl | (refine ret_int ?_; simp [optInt]; done) | (refine ret_int ?_; simp [optInt]; omega), _, rfl⟩
    | false =>
      have HE : Hid (endAt s.data.toList p a = some (a + 1)) := by rw [Hid, hE]; rfl
      clear hE
      go_enter Tryd.func94, Tryd.ntmps94
      go_wp2_with fail
      go_quiet ((go_at_call 122; exact Calls.quiet_of_same (HC.out _)))
      go_wp2_with fail
      go_ret
      rw [HE.out]
      exact ⟨by first | rfl | (refine ret_int ?_; simp [optInt]; done) | (refine ret_int ?_; simp [optInt]; omega), _, rfl⟩
  · have e0 : s.data.toList[a]? = none := List.getElem?_eq_none (by rw [hlen]; omega)
    rw [e0] at hE
    have HE : Hid (endAt s.data.toList p a = none) := hE
    have e1 : decide (a < s.size) = false := decide_eq_false hc
    clear hE e0 hc hk hlen
    go_enter Tryd.func94, Tryd.ntmps94
    go_wp2_with fail
    go_quiet (fail)
    go_wp2_with fail
    go_ret
    rw [HE.out]
    exact ⟨by first | rfl | (refine ret_int ?_; simp [optInt]; done) | (refine ret_int ?_; simp [optInt]; omega), _, rfl⟩
set_option maxRecDepth 100000 in
set_option maxHeartbeats 1000000 in
theorem end_span {w : World} {bm nb no : Nat} {s : ByteArray} {p : Pat} {a : Nat} (h : EndIn w bm nb no s p a) (hk : p.kind = 5) : EndSays w bm nb no a (endAt s.data.toList p a) := by
  obtain ⟨c1, k0, k1, k2, k3, hs, ha, ht⟩ := h
  clear ht
  have hlen : s.data.toList.length = s.size := (size_data s).symm
  rw [hk] at k0
  have hE : endAt s.data.toList p a = (let n := ((s.data.toList.drop a).takeWhile p.bytes.contains).length; if 0 < n then some (a + n) else none) := by
    unfold endAt; rw [if_neg (by rw [hk]; omega), if_neg (by rw [hk]; omega), if_neg (by rw [hk]; omega), if_neg (by rw [hk]; omega), if_pos hk]
  obtain ⟨hS, hS2⟩ := idx_span p.bytes (s.data.toList.drop a)
  rw [hS] at hE
  have HC := hidd (fun w => index_any (s.extract a s.size) p.text false w (by rw [size_extract_to]; omega))
  rw [drop_extract] at HC
  have hdl : (s.data.toList.drop a).length = s.size - a := by rw [List.length_drop, hlen]
  obtain ⟨o, ho⟩ : ∃ o, idx (s.data.toList.drop a) p.bytes false = o := ⟨_, rfl⟩
  rw [show idx (s.data.toList.drop a) p.text.data.toList false = o from ho] at HC
  rw [ho] at hE hS2
  rw [hdl] at hE hS2
  clear ho hS hk hlen hdl
  cases o with
  | none =>
    dsimp only [optInt] at hE HC
    by_cases h0 : 0 < s.size - a
    · have HE : Hid (endAt s.data.toList p a = some (a + (s.size - a))) := by rw [Hid, hE, if_pos h0]
      have e1 : decide (a < s.size) = true := decide_eq_true (by omega)
      clear hE hS2
      go_enter Tryd.func94, Tryd.ntmps94
      go_wp2_with fail
      go_quiet ((go_at_call 116; exact Calls.quiet_of_same ((HC.out _).mono fun e w' h => ⟨h.1, h.2.symm⟩)))
      go_wp2_with fail
      go_ret
      rw [HE.out]
      exact ⟨by first | rfl | (refine ret_int ?_; simp [optInt]; done) | (refine ret_int ?_; simp [optInt]; omega), _, rfl⟩
    · have HE : Hid (endAt s.data.toList p a = none) := by rw [Hid, hE, if_neg h0]
      have e1 : decide (a < s.size) = false := decide_eq_false (by omega)
      clear hE hS2 h0
      go_enter Tryd.func94, Tryd.ntmps94
      go_wp2_with fail
      go_quiet ((go_at_call 116; exact Calls.quiet_of_same ((HC.out _).mono fun e w' h => ⟨h.1, h.2.symm⟩)))
      go_wp2_with fail
      go_ret
      rw [HE.out]
      exact ⟨by first | rfl | (refine ret_int ?_; simp [optInt]; done) | (refine ret_int ?_; simp [optInt]; omega), _, rfl⟩
  | some n =>
    dsimp only [optInt] at hE HC
    have hn := hS2 n rfl
    have e0 : decide ((n : Int) < 0) = false := decide_eq_false (by omega)
    by_cases h0 : 0 < n
    · have HE : Hid (endAt s.data.toList p a = some (a + n)) := by rw [Hid, hE, if_pos h0]
      have e1 : decide ((0 : Int) < (n : Int)) = true := decide_eq_true (by omega)
      have e2 : decide (0 < n) = true := decide_eq_true h0
      clear hE hS2
      go_enter Tryd.func94, Tryd.ntmps94
      go_wp2_with fail
      go_quiet ((go_at_call 116; exact Calls.quiet_of_same ((HC.out _).mono fun e w' h => ⟨h.1, h.2.symm⟩)))
      go_wp2_with fail
      go_ret
      rw [HE.out]
      exact ⟨by first | rfl | (refine ret_int ?_; simp [optInt]; done) | (refine ret_int ?_; simp [optInt]; omega), _, rfl⟩
    · have HE : Hid (endAt s.data.toList p a = none) := by rw [Hid, hE, if_neg h0]
      obtain rfl : n = 0 := by omega
      clear hE hS2 h0 e0
      go_enter Tryd.func94, Tryd.ntmps94
      go_wp2_with fail
      go_quiet ((go_at_call 116; exact Calls.quiet_of_same ((HC.out _).mono fun e w' h => ⟨h.1, h.2.symm⟩)))
      go_wp2_with fail
      go_ret
      rw [HE.out]
      exact ⟨by first | rfl | (refine ret_int ?_; simp [optInt]; done) | (refine ret_int ?_; simp [optInt]; omega), _, rfl⟩
set_option maxRecDepth 100000 in
set_option maxHeartbeats 1000000 in
theorem end_break {w : World} {bm nb no : Nat} {s : ByteArray} {p : Pat} {a : Nat} (h : EndIn w bm nb no s p a) (hk : p.kind = 6) : EndSays w bm nb no a (endAt s.data.toList p a) := by
  obtain ⟨c1, k0, k1, k2, k3, hs, ha, ht⟩ := h
  clear ht
  have hlen : s.data.toList.length = s.size := (size_data s).symm
  rw [hk] at k0
  have hE : endAt s.data.toList p a = (let n := ((s.data.toList.drop a).takeWhile (fun c => !p.bytes.contains c)).length; if a + n < s.data.toList.length then some (a + n) else none) := by
    unfold endAt; rw [if_neg (by rw [hk]; omega), if_neg (by rw [hk]; omega), if_neg (by rw [hk]; omega), if_neg (by rw [hk]; omega), if_neg (by rw [hk]; omega), if_pos hk]
  obtain ⟨hS, hS2⟩ := idx_break p.bytes (s.data.toList.drop a)
  rw [hS, hlen] at hE
  have HC := hidd (fun w => index_any (s.extract a s.size) p.text true w (by rw [size_extract_to]; omega))
  rw [drop_extract] at HC
  have hdl : (s.data.toList.drop a).length = s.size - a := by rw [List.length_drop, hlen]
  obtain ⟨o, ho⟩ : ∃ o, idx (s.data.toList.drop a) p.bytes true = o := ⟨_, rfl⟩
  rw [show idx (s.data.toList.drop a) p.text.data.toList true = o from ho] at HC
  rw [ho] at hE hS2
  rw [hdl] at hE hS2
  clear ho hS hk hlen hdl
  cases o with
  | none =>
    dsimp only [optInt] at hE HC
    have HE : Hid (endAt s.data.toList p a = none) := by rw [Hid, hE, if_neg (show ¬ a + (s.size - a) < s.size by omega)]
    clear hE hS2
    go_enter Tryd.func94, Tryd.ntmps94
    go_wp2_with fail
    go_quiet ((go_at_call 116; exact Calls.quiet_of_same ((HC.out _).mono fun e w' h => ⟨h.1, h.2.symm⟩)))
    go_wp2_with fail
    go_ret
    rw [HE.out]
    exact ⟨by first | rfl | (refine ret_int ?_; simp [optInt]; done) | (refine ret_int ?_; simp [optInt]; omega), _, rfl⟩
  | some n =>
    dsimp only [optInt] at hE HC
    have hn := hS2 n rfl
    have e0 : decide ((0 : Int) ≤ (n : Int)) = true := decide_eq_true (by omega)
    have HE : Hid (endAt s.data.toList p a = some (a + n)) := by rw [Hid, hE, if_pos (by omega)]
    clear hE hS2
    go_enter Tryd.func94, Tryd.ntmps94
    go_wp2_with fail
    go_quiet ((go_at_call 116; exact Calls.quiet_of_same ((HC.out _).mono fun e w' h => ⟨h.1, h.2.symm⟩)))
    go_wp2_with fail
    go_ret
    rw [HE.out]
    exact ⟨by first | rfl | (refine ret_int ?_; simp [optInt]; done) | (refine ret_int ?_; simp [optInt]; omega), _, rfl⟩
set_option maxRecDepth 100000 in
set_option maxHeartbeats 1000000 in
theorem end_tab {w : World} {bm nb no : Nat} {s : ByteArray} {p : Pat} {a : Nat} (h : EndIn w bm nb no s p a) (hk : p.kind = 8) (hn : 0 ≤ p.n) (hn2 : p.n ≤ 65536) : EndSays w bm nb no a (endAt s.data.toList p a) := by
  obtain ⟨c1, k0, k1, k2, k3, hs, ha, ht⟩ := h
  clear ht
  have hlen : s.data.toList.length = s.size := (size_data s).symm
  rw [hk] at k0
  obtain ⟨N, hN⟩ : ∃ N : Nat, p.n = N := ⟨p.n.toNat, by omega⟩
  have hNum : p.num = N := by unfold Pat.num; rw [hN]; simp
  rw [hN] at k2
  have hN2 : N ≤ 65536 := by omega
  have hE : endAt s.data.toList p a = if a ≤ N ∧ N ≤ s.size then some N else none := by
    unfold endAt
    rw [if_neg (by rw [hk]; omega), if_neg (by rw [hk]; omega), if_neg (by rw [hk]; omega), if_neg (by rw [hk]; omega), if_neg (by rw [hk]; omega), if_neg (by rw [hk]; omega), if_pos hk, hNum, hlen]
  clear hn hn2 hN hNum hk hlen
  by_cases hc : a ≤ N
  · have e1 : decide (a ≤ N) = true := decide_eq_true (by omega)
    by_cases hc2 : N ≤ s.size
    · have HE : Hid (endAt s.data.toList p a = some N) := by rw [Hid, hE, if_pos ⟨hc, hc2⟩]
      have e2 : decide (N ≤ s.size) = true := decide_eq_true (by omega)
      clear hE
      go_enter Tryd.func94, Tryd.ntmps94
      go_wp2_with fail
      go_ret
      rw [HE.out]
      exact ⟨by first | rfl | (refine ret_int ?_; simp [optInt]; done) | (refine ret_int ?_; simp [optInt]; omega), 0, rfl⟩
    · have HE : Hid (endAt s.data.toList p a = none) := by rw [Hid, hE, if_neg (by omega)]
      have e2 : decide (N ≤ s.size) = false := decide_eq_false (by omega)
      clear hE hc2
      go_enter Tryd.func94, Tryd.ntmps94
      go_wp2_with fail
      go_ret
      rw [HE.out]
      exact ⟨by first | rfl | (refine ret_int ?_; simp [optInt]; done) | (refine ret_int ?_; simp [optInt]; omega), 0, rfl⟩
  · have HE : Hid (endAt s.data.toList p a = none) := by rw [Hid, hE, if_neg (by omega)]
    have e1 : decide (a ≤ N) = false := decide_eq_false (by omega)
    clear hE hc
    go_enter Tryd.func94, Tryd.ntmps94
    go_wp2_with fail
    go_ret
    rw [HE.out]
    exact ⟨by first | rfl | (refine ret_int ?_; simp [optInt]; done) | (refine ret_int ?_; simp [optInt]; omega), 0, rfl⟩
set_option maxRecDepth 100000 in
set_option maxHeartbeats 1000000 in
theorem end_rtab {w : World} {bm nb no : Nat} {s : ByteArray} {p : Pat} {a : Nat} (h : EndIn w bm nb no s p a) (hk : p.kind = 9) (hn : 0 ≤ p.n) (hn2 : p.n ≤ 65536) : EndSays w bm nb no a (endAt s.data.toList p a) := by
  obtain ⟨c1, k0, k1, k2, k3, hs, ha, ht⟩ := h
  clear ht
  have hlen : s.data.toList.length = s.size := (size_data s).symm
  rw [hk] at k0
  obtain ⟨N, hN⟩ : ∃ N : Nat, p.n = N := ⟨p.n.toNat, by omega⟩
  have hNum : p.num = N := by unfold Pat.num; rw [hN]; simp
  rw [hN] at k2
  have hN2 : N ≤ 65536 := by omega
  have hE : endAt s.data.toList p a = if a + N ≤ s.size then some (s.size - N) else none := by
    unfold endAt
    rw [if_neg (by rw [hk]; omega), if_neg (by rw [hk]; omega), if_neg (by rw [hk]; omega), if_neg (by rw [hk]; omega), if_neg (by rw [hk]; omega), if_neg (by rw [hk]; omega), if_neg (by rw [hk]; omega), if_pos hk, hNum, hlen]
  clear hn hn2 hN hNum hk hlen
  by_cases hc : a + N ≤ s.size
  · have HE : Hid (endAt s.data.toList p a = some (s.size - N)) := by rw [Hid, hE, if_pos hc]
    have e1 : decide ((a : Int) ≤ (s.size : Int) - (N : Int)) = true := decide_eq_true (by omega)
    clear hE
    go_enter Tryd.func94, Tryd.ntmps94
    go_wp2_with fail
    go_ret
    rw [HE.out]
    exact ⟨by first | rfl | (refine ret_int ?_; simp [optInt]; done) | (refine ret_int ?_; simp [optInt]; omega), 0, rfl⟩
  · have HE : Hid (endAt s.data.toList p a = none) := by rw [Hid, hE, if_neg hc]
    have e1 : decide ((a : Int) ≤ (s.size : Int) - (N : Int)) = false := decide_eq_false (by omega)
    clear hE hc
    go_enter Tryd.func94, Tryd.ntmps94
    go_wp2_with fail
    go_ret
    rw [HE.out]
    exact ⟨by first | rfl | (refine ret_int ?_; simp [optInt]; done) | (refine ret_int ?_; simp [optInt]; omega), 0, rfl⟩
set_option maxRecDepth 100000 in
set_option maxHeartbeats 1000000 in
theorem end_pos {w : World} {bm nb no : Nat} {s : ByteArray} {p : Pat} {a : Nat} (h : EndIn w bm nb no s p a) (hk : p.kind = 10) (hn : 0 ≤ p.n) (hn2 : p.n ≤ 65536) : EndSays w bm nb no a (endAt s.data.toList p a) := by
  obtain ⟨c1, k0, k1, k2, k3, hs, ha, ht⟩ := h
  clear ht
  have hlen : s.data.toList.length = s.size := (size_data s).symm
  rw [hk] at k0
  obtain ⟨N, hN⟩ : ∃ N : Nat, p.n = N := ⟨p.n.toNat, by omega⟩
  have hNum : p.num = N := by unfold Pat.num; rw [hN]; simp
  rw [hN] at k2
  have hN2 : N ≤ 65536 := by omega
  have hE : endAt s.data.toList p a = if a = N then some a else none := by
    unfold endAt
    rw [if_neg (by rw [hk]; omega), if_neg (by rw [hk]; omega), if_neg (by rw [hk]; omega), if_neg (by rw [hk]; omega), if_neg (by rw [hk]; omega), if_neg (by rw [hk]; omega), if_neg (by rw [hk]; omega), if_neg (by rw [hk]; omega), if_pos hk, hNum]
  clear hn hn2 hN hNum hk hlen
  by_cases hc : a = N
  · have HE : Hid (endAt s.data.toList p a = some a) := by rw [Hid, hE, if_pos hc]
    have e1 : (((a : Int) == (N : Int)) = true) := by rw [beq_iff_eq]; omega
    clear hE hc
    go_enter Tryd.func94, Tryd.ntmps94
    go_wp2_with fail
    go_ret
    rw [HE.out]
    exact ⟨by first | rfl | (refine ret_int ?_; simp [optInt]; done) | (refine ret_int ?_; simp [optInt]; omega), 0, rfl⟩
  · have HE : Hid (endAt s.data.toList p a = none) := by rw [Hid, hE, if_neg hc]
    have e1 : (((a : Int) == (N : Int)) = false) := beq_eq_false_iff_ne.2 (by omega)
    have e2 : (((a : Int) == (s.size : Int) - (N : Int)) = true) ∨ (((a : Int) == (s.size : Int) - (N : Int)) = false) := by cases ((a : Int) == (s.size : Int) - (N : Int)) <;> simp
    clear hE hc
    rcases e2 with e2 | e2
    all_goals
      go_enter Tryd.func94, Tryd.ntmps94
      go_wp2_with fail
      go_ret
      rw [HE.out]
      exact ⟨by first | rfl | (refine ret_int ?_; simp [optInt]; done) | (refine ret_int ?_; simp [optInt]; omega), 0, rfl⟩
set_option maxRecDepth 100000 in
set_option maxHeartbeats 1000000 in
theorem end_rpos {w : World} {bm nb no : Nat} {s : ByteArray} {p : Pat} {a : Nat} (h : EndIn w bm nb no s p a) (hk : p.kind = 11) (hn : 0 ≤ p.n) (hn2 : p.n ≤ 65536) : EndSays w bm nb no a (endAt s.data.toList p a) := by
  obtain ⟨c1, k0, k1, k2, k3, hs, ha, ht⟩ := h
  clear ht
  have hlen : s.data.toList.length = s.size := (size_data s).symm
  rw [hk] at k0
  obtain ⟨N, hN⟩ : ∃ N : Nat, p.n = N := ⟨p.n.toNat, by omega⟩
  have hNum : p.num = N := by unfold Pat.num; rw [hN]; simp
  rw [hN] at k2
  have hN2 : N ≤ 65536 := by omega
  have hE : endAt s.data.toList p a = if a + N = s.size then some a else none := by
    unfold endAt
    rw [if_neg (by rw [hk]; omega), if_neg (by rw [hk]; omega), if_neg (by rw [hk]; omega), if_neg (by rw [hk]; omega), if_neg (by rw [hk]; omega), if_neg (by rw [hk]; omega), if_neg (by rw [hk]; omega), if_neg (by rw [hk]; omega), if_neg (by rw [hk]; omega), if_pos hk, hNum, hlen]
  clear hn hn2 hN hNum hk hlen
  have e1 : (((a : Int) == (N : Int)) = true) ∨ (((a : Int) == (N : Int)) = false) := by cases ((a : Int) == (N : Int)) <;> simp
  by_cases hc : a + N = s.size
  · have HE : Hid (endAt s.data.toList p a = some a) := by rw [Hid, hE, if_pos hc]
    have e2 : (((a : Int) == (s.size : Int) - (N : Int)) = true) := by rw [beq_iff_eq]; omega
    clear hE hc
    rcases e1 with e1 | e1
    all_goals
      go_enter Tryd.func94, Tryd.ntmps94
      go_wp2_with fail
      go_ret
      rw [HE.out]
      exact ⟨by first | rfl | (refine ret_int ?_; simp [optInt]; done) | (refine ret_int ?_; simp [optInt]; omega), 0, rfl⟩
  · have HE : Hid (endAt s.data.toList p a = none) := by rw [Hid, hE, if_neg hc]
    have e2 : (((a : Int) == (s.size : Int) - (N : Int)) = false) := beq_eq_false_iff_ne.2 (by omega)
    clear hE hc
    rcases e1 with e1 | e1
    all_goals
      go_enter Tryd.func94, Tryd.ntmps94
      go_wp2_with fail
      go_ret
      rw [HE.out]
      exact ⟨by first | rfl | (refine ret_int ?_; simp [optInt]; done) | (refine ret_int ?_; simp [optInt]; omega), 0, rfl⟩
set_option maxRecDepth 100000 in
set_option maxHeartbeats 1000000 in
theorem end_rem {w : World} {bm nb no : Nat} {s : ByteArray} {p : Pat} {a : Nat} (h : EndIn w bm nb no s p a) (hk : p.kind = 12) : EndSays w bm nb no a (endAt s.data.toList p a) := by
  obtain ⟨c1, k0, k1, k2, k3, hs, ha, ht⟩ := h
  clear ht
  have hlen : s.data.toList.length = s.size := (size_data s).symm
  rw [hk] at k0
  have HE : Hid (endAt s.data.toList p a = some s.size) := by
    rw [Hid]; unfold endAt
    rw [if_neg (by rw [hk]; omega), if_neg (by rw [hk]; omega), if_neg (by rw [hk]; omega), if_neg (by rw [hk]; omega), if_neg (by rw [hk]; omega), if_neg (by rw [hk]; omega), if_neg (by rw [hk]; omega), if_neg (by rw [hk]; omega), if_neg (by rw [hk]; omega), if_neg (by rw [hk]; omega), if_pos hk, hlen]
  clear hk hlen
  go_enter Tryd.func94, Tryd.ntmps94
  go_wp2_with fail
  go_ret
  rw [HE.out]
  exact ⟨by first | rfl | (refine ret_int ?_; simp [optInt]; done) | (refine ret_int ?_; simp [optInt]; omega), 0, rfl⟩
set_option maxRecDepth 100000 in
set_option maxHeartbeats 1000000 in
theorem end_fail {w : World} {bm nb no : Nat} {s : ByteArray} {p : Pat} {a : Nat} (h : EndIn w bm nb no s p a) (hk : p.kind = 15) : EndSays w bm nb no a (endAt s.data.toList p a) := by
  obtain ⟨c1, k0, k1, k2, k3, hs, ha, ht⟩ := h
  clear ht
  have hlen : s.data.toList.length = s.size := (size_data s).symm
  rw [hk] at k0
  have HE : Hid (endAt s.data.toList p a = none) := by
    rw [Hid]; unfold endAt
    rw [if_neg (by rw [hk]; omega), if_neg (by rw [hk]; omega), if_neg (by rw [hk]; omega), if_neg (by rw [hk]; omega), if_neg (by rw [hk]; omega), if_neg (by rw [hk]; omega), if_neg (by rw [hk]; omega), if_neg (by rw [hk]; omega), if_neg (by rw [hk]; omega), if_neg (by rw [hk]; omega), if_neg (by rw [hk]; omega)]
  clear hk hlen
  go_enter Tryd.func94, Tryd.ntmps94
  go_wp2_with fail
  go_ret
  rw [HE.out]
  exact ⟨by first | rfl | (refine ret_int ?_; simp [optInt]; done) | (refine ret_int ?_; simp [optInt]; omega), 0, rfl⟩
end Go.Proofs.YtkkdpafkafjfgaaDoor
namespace Go.Proofs.YtkkdpafkafjfgaaDoor
open Go.RowKit
set_option linter.unusedVariables false
abbrev TabP (w : World) : Prop := Lib.TabIs Tryd.prog w "internal/strconv.uint64pow10" .u64 Lib.pow10Tab
theorem gPow10 : Tryd.prog.globalNamed "internal/strconv.uint64pow10" = some 3 := by kernel_rfl
theorem TabP.kept {w w' : World} (h : TabP w) (g : Grew w w') : TabP w' := TabIs_below gPow10 h g
theorem Grew.grow {a w : World} (os : Array Obj) (h : Grew a w) : Grew a (Go.Sort.grow w os) :=
  ⟨h.os, h.tape, h.output, by have := h.lt; simp only [Go.Sort.grow, Array.size_append]; omega, fun k hk => by
    have := h.lt
    rw [← h.block k hk, Go.Sort.grow]
    exact Array.getElem?_append_left (by omega)⟩
theorem shut_end {X : Far} {w0 w : World} {bm : Nat} {rv : Value} {s : ByteArray} {fuel : Nat} {m : MS} {sv cv cv' : Value} {gp : Option Addr} {vs : List Value} (h : MacSt X w0 bm rv s fuel m w sv cv gp vs)
    (hv : w.ownsRow w0.heap.size 190 3 cv' 0 []) : 
    MacRep X w0 bm rv s fuel m.shut ((w.setCell ⟨bm, 7, none⟩ (.bool true)).setCell ⟨bm, 5, none⟩ cv') ∧ Keep w ((w.setCell ⟨bm, 7, none⟩ (.bool true)).setCell ⟨bm, 5, none⟩ cv') := by
  have hb1 := setCell_heap_same h.mac 7 (.bool true)
  have k1 : Keep w (w.setCell ⟨bm, 7, none⟩ (.bool true)) := (Keep.refl w).setCell h.mac (by decide) (by decide) _
  have k2 := k1.setCell hb1 (by decide) (by decide) (o := 5) (sp := none) cv'
  refine ⟨⟨sv, cv', gp, [], ?_, h.given.kept k2, ?_, rfl, ?_, (h.grew.setCell h.hbm _).setCell h.hbm _, h.hbm, (h.far.setCell h.mac (by decide) _ _).setCell hb1 (by decide) _ _⟩, k2⟩
  · rw [setCell_heap_same hb1]; rfl
  · exact ownsRow_setCell_other (ownsRow_setCell_other hv (ownBlock_ne hv h.mac (by decide)) _) (ownBlock_ne hv h.mac (by decide)) _
  · exact ownsRow_setCell_other (ownsRow_setCell_other h.said (ownBlock_ne h.said h.mac (by decide)) _) (ownBlock_ne h.said h.mac (by decide)) _
section
variable {X : Far} {w0 w : World} {bm nb no : Nat} {rv : Value} {s : ByteArray} {fuel : Nat} {m : MS} {p : Pat} {a : Nat}
abbrev EndCalls (X : Far) (w0 : World) (bm : Nat) (rv : Value) (s : ByteArray) (fuel : Nat) (m : MS) (w : World) (nb no : Nat) (p : Pat) (a : Nat) : Prop :=
  Calls Tryd.prog 94 #[.pointer (some ⟨bm, 0, none⟩), .pointer (some ⟨nb, no, none⟩), .int .i64 a] w fun e w' => Ends X w0 bm rv s fuel w (leave s p a m) e w'
theorem EndSays.ends (h : MacRep X w0 bm rv s fuel m w) (h1 : p.kind ≠ 23) (h2 : p.kind ≠ 16) (h3 : p.kind ≠ 17) (hc : EndSays w bm nb no a (endAt s.data.toList p a)) : EndCalls X w0 bm rv s fuel m w nb no p a := by
  refine hc.mono ?_
  rintro e w' ⟨rfl, n, rfl⟩
  have e1 : leave s p a m = (endAt s.data.toList p a, m) := by unfold leave; rw [if_neg h1, if_neg h2, if_neg h3]
  rw [e1]
  obtain ⟨sv, cv, gp, vs, h⟩ := h
  have g := (Grew.refl w).drewN n
  exact ⟨rfl, ⟨sv, cv, gp, vs, h.kept g⟩, Keep.of_grew g⟩
set_option maxRecDepth 100000 in
set_option maxHeartbeats 1000000 in
theorem end_fence (h : MacRep X w0 bm rv s fuel m w) (hp : PatAt w0 nb no p) (hk : p.kind = 16) (hn : m.choices.length ≤ 1000000000) : EndCalls X w0 bm rv s fuel m w nb no p a := by
  have HL := hidd (later_any h 8 a 0 nb no p none [] hp rfl hn)
  obtain ⟨v, hv⟩ := hp.open
  have e1 : leave s p a m = (some a, m.later [⟨8, p, 0⟩] a) := by unfold leave; rw [if_neg (by rw [hk]; omega), if_pos hk]
  obtain ⟨sv, cv, gp, vs, h⟩ := h
  have c1 := h.c1
  have k0 := (hv.1.kept h.grew).c0
  rw [hk] at k0
  have E := hidd e1
  clear h hp hv hk e1
  unfold EndCalls
  go_enter Tryd.func94, Tryd.ntmps94
  go_wp2_with fail
  refine HL.out.mono ?_; rintro e w2 ⟨rfl, h2⟩
  have H2 := hidd h2
  clear h2
  go_wp2_with fail
  go_ret
  rw [E.out]
  exact ⟨rfl, H2.out⟩
set_option maxRecDepth 100000 in
set_option maxHeartbeats 1000000 in
theorem end_abort (h : MacRep X w0 bm rv s fuel m w) (hp : PatAt w0 nb no p) (hk : p.kind = 17) : EndCalls X w0 bm rv s fuel m w nb no p a := by
  obtain ⟨v, hv⟩ := hp.open
  have e1 : leave s p a m = (none, m.shut) := by unfold leave; rw [if_neg (by rw [hk]; omega), if_neg (by rw [hk]; omega), if_pos hk]
  obtain ⟨sv, cv, gp, vs, h⟩ := h
  have c1 := h.c1
  have k0 := (hv.1.kept h.grew).c0
  rw [hk] at k0
  have E := hidd e1
  clear hp hv hk e1
  unfold EndCalls
  have c7 := h.c7
  have f7 := h.free 7
  have d5 : (w.setCell ⟨bm, 7, none⟩ (.bool true)).cell? ⟨bm, 5, none⟩ = some cv := by rw [setCell_cell_other _ _ _ _ (.inr (by simp))]; exact h.c5
  have d6 : (w.setCell ⟨bm, 7, none⟩ (.bool true)).frozen? ⟨bm, 5, none⟩ = false := by rw [setCell_frozen]; exact h.free 5
  rcases h.own.2 with ⟨rfl, hn0⟩ | ⟨g, cap, cur, rfl, g1, g2, g3, g4, g5, g6⟩
  · have HE := hidd (shut_end h (World.ownsRow_nil w _ _ 3))
    clear h hn0
    go_enter Tryd.func94, Tryd.ntmps94
    go_wp2_with fail
    go_ret
    rw [E.out]
    exact ⟨rfl, HE.out⟩
  · have HE := hidd (shut_end h (cv' := .slice (some ⟨g, 0, none⟩) 0 cap) ⟨by simp, .inr ⟨g, cap, cur, rfl, g1, g2, by omega, g4, g5, by simp⟩⟩)
    clear h g1 g2 g3 g4 g5 g6
    go_enter Tryd.func94, Tryd.ntmps94
    go_wp2_with fail
    go_ret
    rw [E.out]
    exact ⟨rfl, HE.out⟩
set_option maxRecDepth 100000 in
set_option maxHeartbeats 1000000 in
theorem end_cursor (h : MacRep X w0 bm rv s fuel m w) (hp : PatAt w0 nb no p) (hk : p.kind = 23) (ha : a ≤ 65536) (hn : m.said.length ≤ 1000000000000) (hT : TabP w0) : EndCalls X w0 bm rv s fuel m w nb no p a := by
  have e1 : leave s p a m = (some a, m.speak (p.name, digText a)) := by unfold leave; rw [if_pos hk]
  obtain ⟨v, hv⟩ := hp.open
  have HI : Hid (∀ w1, Grew w0 w1 → Calls Tryd.prog 123 #[.int .i64 a] w1 fun e w' => e = .returned (.string (digText a)) ∧ Grew w1 w') := fun w1 g => (Tryd.strconv_Itoa (a : Int) (by omega) (by omega) w1 (hT.kept g)).mono (by
    rintro e w' ⟨rfl, k, os, rfl⟩
    refine ⟨?_, ?_⟩
    · have : Lib.itoa (a : Int) = Lib.decDigits a := by unfold Lib.itoa; rw [if_neg (by omega)]; rfl
      rw [this]; rfl
    · exact ((Grew.refl _).drewN k).grow os)
  have HS : Hid (∀ w1, MacRep X w0 bm rv s fuel m w1 → Calls Tryd.prog 118 #[.pointer (some ⟨bm, 0, none⟩), .string p.name, .string (digText a)] w1 fun e w' => e = .returned (.tuple #[]) ∧ MacRep X w0 bm rv s fuel (m.speak (p.name, digText a)) w' ∧ Keep w1 w') := fun w1 h1 => say_any h1 p.name (digText a) hn
  obtain ⟨sv, cv, gp, vs, h⟩ := h
  have c1 := h.c1
  have k0 := (hv.1.kept h.grew).c0
  have k3 := (hv.1.kept h.grew).c3
  rw [hk] at k0
  have HM := hidd h
  have E := hidd e1
  have HV := hidd hv.1
  have HG := hidd h.grew.drew
  have HG2 := hidd (Grew.refl w).drew
  clear hp hv hk e1 h
  unfold EndCalls
  go_enter Tryd.func94, Tryd.ntmps94
  go_wp2_with fail
  go_region_held3 (fun w' => w'.cell? ⟨nb, no + 3, none⟩ = some (.string p.name)) (first | go_keep | exact hnm)
    (first
     | (go_at_call 123; refine (HI.out _ HG.out).mono ?_; rintro e w2 ⟨rfl, g2⟩; have hnm : w2.cell? ⟨nb, no + 3, none⟩ = some (.string p.name) := (HV.out.kept (HG.out.trans g2)).c3; have HM2 : Hid (MacRep X w0 bm rv s fuel m w2 ∧ Keep w w2) := ⟨⟨sv, cv, gp, vs, HM.out.kept (HG2.out.trans g2)⟩, Keep.of_grew (HG2.out.trans g2)⟩)
     | (go_at_call 118; refine (HS.out _ HM2.out.1).mono ?_; rintro e w3 ⟨rfl, h3, k3'⟩; have hnm : w3.cell? ⟨nb, no + 3, none⟩ = some (.string p.name) := (HV.out.kept (by obtain ⟨_, _, _, _, h4⟩ := h3; exact h4.grew)).c3; have H3 : Hid (MacRep X w0 bm rv s fuel (m.speak (p.name, digText a)) w3 ∧ Keep w w3) := ⟨h3, HM2.out.2.trans k3'⟩; clear h3 k3'))
  all_goals
    go_wp2_with fail
    go_ret
    rw [E.out]
    exact ⟨rfl, H3.out.1, H3.out.2⟩
theorem end_any (h : MacRep X w0 bm rv s fuel m w) (hp : PatAt w0 nb no p) (hin : inner p = false) (he : nodeErr p = 0) (hs : s.size ≤ 65536) (ha : a ≤ s.size) (hc : m.choices.length ≤ 1000000000) (hd : m.said.length ≤ 1000000000000) (hT : TabP w0) :
    EndCalls X w0 bm rv s fuel m w nb no p a := by
  obtain ⟨i1, i2, i3, i4, i5, i6, i7, i8, i9⟩ := inner_false hin
  obtain ⟨v, hv⟩ := hp.open
  have hE : EndIn w bm nb no s p a := by
    obtain ⟨sv, cv, gp, vs, h⟩ := h
    have k := hv.1.kept h.grew
    refine ⟨h.c1, k.c0, k.c1, k.c2, k.c3, hs, ha, fun hk => ?_⟩
    unfold nodeErr at he
    rw [if_neg (by omega), if_pos hk] at he
    by_cases ht : 65536 < p.text.size
    · rw [if_pos ht] at he; omega
    · omega
  have hr : 1 ≤ p.kind ∧ p.kind ≤ 24 := by
    unfold nodeErr at he
    by_cases hk : p.kind < 1 ∨ 24 < p.kind
    · rw [if_pos hk] at he; omega
    · omega
  have hnum : p.kind = 2 ∨ p.kind = 8 ∨ p.kind = 9 ∨ p.kind = 10 ∨ p.kind = 11 → 0 ≤ p.n ∧ p.n ≤ 65536 := by
    intro hk
    unfold nodeErr at he
    rw [if_neg (by omega), if_neg (by omega), if_neg (by omega), if_pos hk] at he
    by_cases ht : p.n < 0 ∨ 65536 < p.n
    · rw [if_pos ht] at he; omega
    · omega
  have cases : p.kind = 1 ∨ p.kind = 2 ∨ p.kind = 3 ∨ p.kind = 4 ∨ p.kind = 5 ∨ p.kind = 6 ∨ p.kind = 8 ∨ p.kind = 9 ∨ p.kind = 10 ∨ p.kind = 11 ∨ p.kind = 12 ∨ p.kind = 15 ∨ p.kind = 16 ∨ p.kind = 17 ∨ p.kind = 23 := by omega
  rcases cases with hk | hk | hk | hk | hk | hk | hk | hk | hk | hk | hk | hk | hk | hk | hk
  · exact EndSays.ends h (by omega) (by omega) (by omega) (end_lit hE hk)
  · exact EndSays.ends h (by omega) (by omega) (by omega) (end_len hE hk (hnum (by omega)).1 (hnum (by omega)).2)
  · exact EndSays.ends h (by omega) (by omega) (by omega) (end_any' hE hk)
  · exact EndSays.ends h (by omega) (by omega) (by omega) (end_notany hE hk)
  · exact EndSays.ends h (by omega) (by omega) (by omega) (end_span hE hk)
  · exact EndSays.ends h (by omega) (by omega) (by omega) (end_break hE hk)
  · exact EndSays.ends h (by omega) (by omega) (by omega) (end_tab hE hk (hnum (by omega)).1 (hnum (by omega)).2)
  · exact EndSays.ends h (by omega) (by omega) (by omega) (end_rtab hE hk (hnum (by omega)).1 (hnum (by omega)).2)
  · exact EndSays.ends h (by omega) (by omega) (by omega) (end_pos hE hk (hnum (by omega)).1 (hnum (by omega)).2)
  · exact EndSays.ends h (by omega) (by omega) (by omega) (end_rpos hE hk (hnum (by omega)).1 (hnum (by omega)).2)
  · exact EndSays.ends h (by omega) (by omega) (by omega) (end_rem hE hk)
  · exact EndSays.ends h (by omega) (by omega) (by omega) (end_fail hE hk)
  · exact end_fence h hp hk hc
  · exact end_abort h hp hk
  · exact end_cursor h hp hk (by omega) hd hT
end
end Go.Proofs.YtkkdpafkafjfgaaDoor
