/- ScanBal: the walk. Conditions: what the arguments are read as; the library's table of powers of ten. -/
import Derived.Test.YtmkldfjcpmoajabDoorScShape
import Derived.Test.YtmkldfjcpmoajabDoorScPlain
import Derived.Test.YtmkldfjcpmoajabDoorBytes
namespace Go.Proofs.YtmkldfjcpmoajabDoor
open Go.RowKit
set_option linter.unusedVariables false
/-- Are all brackets in pairs, so many being open? -/
def bal : Nat → List UInt8 → Bool
  | d, [] => d == 0
  | d, c :: l => if c = 40 then bal (d + 1) l else if c = 41 then (match d with | 0 => false | d + 1 => bal d l) else bal d l
theorem bal_nil (d : Nat) : bal d [] = (d == 0) := by unfold bal; rfl
theorem bal_cons (d : Nat) (c : UInt8) (l : List UInt8) : bal d (c :: l) = if c = 40 then bal (d + 1) l else if c = 41 then (match d with | 0 => false | d + 1 => bal d l) else bal d l := by
  cases d <;> (conv => lhs; unfold bal)
/-- After so many bytes: what is open, and which ends are still to come (L). -/
def BalAt (l : List UInt8) (at_ i : Nat) (L : List Nat) : Prop :=
  (∃ d, (∀ more, bal 0 (l.take i ++ more) = bal d more) ∧ L = pairEnds (l.drop i) d (at_ + i)) ∨ ((∀ more, bal 0 (l.take i ++ more) = false) ∧ L = [])
theorem balAt_zero (l : List UInt8) (at_ : Nat) : BalAt l at_ 0 (pairEnds l 0 at_) := Or.inl ⟨0, fun more => by simp, by simp⟩
theorem balAt_step {l : List UInt8} {at_ i : Nat} {L : List Nat} (h : BalAt l at_ i L) (hi : i < l.length) :
    (bal 0 (l.take (i + 1)) = false ∧ BalAt l at_ (i + 1) L) ∨ (bal 0 (l.take (i + 1)) = true ∧ ∃ L', L = (at_ + i + 1) :: L' ∧ BalAt l at_ (i + 1) L') := by
  have ht : ∀ more, l.take (i + 1) ++ more = l.take i ++ (l[i] :: more) := fun more => by rw [List.take_succ_eq_append_getElem hi, List.append_assoc]; rfl
  have ht0 : l.take (i + 1) = l.take i ++ [l[i]] := List.take_succ_eq_append_getElem hi
  have hd : l.drop i = l[i] :: l.drop (i + 1) := List.drop_eq_getElem_cons hi
  rcases h with ⟨d, h1, h2⟩ | ⟨h1, h2⟩
  · rw [hd, pairEnds.eq_def] at h2
    dsimp only at h2
    rw [ht0, h1]
    by_cases c1 : l[i] = 40
    · rw [if_pos c1] at h2
      refine Or.inl ⟨by rw [bal_cons, if_pos c1, bal_nil]; rfl, Or.inl ⟨d + 1, fun more => by rw [ht, h1, bal_cons, if_pos c1], by rw [h2, Nat.add_assoc]⟩⟩
    · rw [if_neg c1] at h2
      by_cases c2 : l[i] = 41
      · rw [if_pos c2] at h2
        match d, h1, h2 with
        | 0, h1, h2 => exact Or.inl ⟨by rw [bal_cons, if_neg c1, if_pos c2], Or.inr ⟨fun more => by rw [ht, h1, bal_cons, if_neg c1, if_pos c2], h2⟩⟩
        | 1, h1, h2 => exact Or.inr ⟨by rw [bal_cons, if_neg c1, if_pos c2]; rfl, _, h2, Or.inl ⟨0, fun more => by rw [ht, h1, bal_cons, if_neg c1, if_pos c2], by rw [Nat.add_assoc]⟩⟩
        | d + 2, h1, h2 => exact Or.inl ⟨by rw [bal_cons, if_neg c1, if_pos c2]; rfl, Or.inl ⟨d + 1, fun more => by rw [ht, h1, bal_cons, if_neg c1, if_pos c2], by rw [h2, Nat.add_assoc]⟩⟩
      · rw [if_neg c2] at h2
        by_cases c3 : d = 0
        · rw [if_pos c3] at h2
          subst c3
          exact Or.inr ⟨by rw [bal_cons, if_neg c1, if_neg c2, bal_nil]; rfl, _, h2, Or.inl ⟨0, fun more => by rw [ht, h1, bal_cons, if_neg c1, if_neg c2], by rw [Nat.add_assoc]⟩⟩
        · rw [if_neg c3] at h2
          exact Or.inl ⟨by rw [bal_cons, if_neg c1, if_neg c2, bal_nil]; simp [c3], Or.inl ⟨d, fun more => by rw [ht, h1, bal_cons, if_neg c1, if_neg c2], by rw [h2, Nat.add_assoc]⟩⟩
  · exact Or.inl ⟨by rw [ht0]; exact h1 _, Or.inr ⟨fun more => by rw [ht]; exact h1 _, h2⟩⟩
theorem balAt_end {l : List UInt8} {at_ : Nat} {L : List Nat} (h : BalAt l at_ l.length L) : L = [] := by
  rcases h with ⟨d, _, h⟩ | ⟨_, h⟩
  · rw [h, List.drop_length]; rfl
  · exact h
section
variable {w : World} {t s : ByteArray}
theorem eq_u8 {c : UInt8} {n : Nat} (hn : n < 256) : ((c.toNat : Int) == (n : Int)) = decide (c = UInt8.ofNat n) := by
  by_cases h : c = UInt8.ofNat n
  · subst h; simp [Nat.mod_eq_of_lt hn]
  · rw [decide_eq_false h, beq_eq_false_iff_ne]
    intro e
    apply h
    apply UInt8.toNat_inj.1
    have : c.toNat = n := by omega
    rw [this]; simp [Nat.mod_eq_of_lt hn]
set_option maxRecDepth 100000 in
set_option maxHeartbeats 2000000 in
theorem Balanced_any (ht : t.size ≤ 140737488355328) :
    Calls Tryd.prog 12 #[.string t] w fun e w' => e = .returned (.bool (bal 0 t.data.toList)) ∧ Grew w w' := by
  have hconv := bytesOf w t
  have hb := bytesAt_row w.drew t (grownCap w t.size 0 5) 5
  obtain ⟨w1, hw1⟩ : ∃ w1, w.drew.alloc (.cells (bytesRow t (grownCap w t.size 0 5)) 5 ((bytesRow t (grownCap w t.size 0 5)).size, (bytesRow t (grownCap w t.size 0 5)).size + 1)) = w1 := ⟨_, rfl⟩
  have HG : Hid (Grew w w1) := hw1 ▸ ((Grew.refl w).drew.alloc _)
  rw [hw1] at hconv hb
  generalize grownCap w t.size 0 5 = cap at hconv
  have HB : Hid (∀ j (hj : j < t.size), w1.cell? ⟨w.heap.size, j, none⟩ = some (.int .u8 (t.data.toList[j]'hj).toNat)) := fun j hj => by
    have := (hb j (by simpa using hj)).1
    rw [Nat.zero_add] at this
    show w1.cell? ⟨w.drew.heap.size, j, none⟩ = _
    rw [this]; simp [encB]
    rw [getElem!_pos t.data j hj]
  clear hb hw1
  go_enter Tryd.func12, Tryd.ntmps12
  go_wp2_with fail
  go_loop [3, 5, 9] (fun s3 _ s9 => ∃ (k d : Nat), k ≤ t.size ∧ d ≤ k ∧ s3 = .int .i64 d ∧ s9 = .int .i64 k ∧ Hid (bal 0 t.data.toList = bal d (t.data.toList.drop k))) (fun _ _ s9 => t.size - (intOf s9).toNat)
  case atStart => exact ⟨0, 0, Nat.zero_le _, Nat.le_refl _, rfl, rfl, rfl⟩
  case round =>
    obtain ⟨k, d, hk, hdk, rfl, rfl, HI⟩ := hrel
    by_cases hlt : k < t.size
    · have hc := HB.out k hlt
      have hl : k < t.data.toList.length := hlt
      have HD := hidd (HI.out)
      rw [List.drop_eq_getElem_cons hl, bal_cons] at HD
      generalize t.data.toList[k] = c at hc HD
      have HC := HB
      clear HB HI hl
      by_cases c1 : c = 40
      · subst c1
        have HE : Hid (bal 0 t.data.toList = bal (d + 1) (t.data.toList.drop (k + 1))) := HD.out
        clear HD
        go_wp2_with fail
        go_round
        case rel => exact ⟨k + 1, d + 1, by omega, by omega, by go_num, by go_num, HE.out⟩
        case measure => simp [intOf]; omega
      · by_cases c2 : c = 41
        · subst c2
          match d, hdk, HD with
          | 0, hdk, HD =>
            have HE : Hid (bal 0 t.data.toList = false) := HD.out
            clear HD
            go_wp2_with fail
            go_ret
            exact ⟨ret_bool HE.out.symm, HG.out⟩
          | d + 1, hdk, HD =>
            have HE : Hid (bal 0 t.data.toList = bal d (t.data.toList.drop (k + 1))) := HD.out
            clear HD
            go_wp2_with fail
            go_round
            case rel => exact ⟨k + 1, d, by omega, by omega, rfl, by go_num, HE.out⟩
            case measure => simp [intOf]; omega
        · have f1 : ((c.toNat : Int) == 40) = false := by have := eq_u8 (c := c) (n := 40) (by omega); rw [show ((40 : Nat) : Int) = 40 from rfl] at this; rw [this]; exact decide_eq_false c1
          have f2 : ((c.toNat : Int) == 41) = false := by have := eq_u8 (c := c) (n := 41) (by omega); rw [show ((41 : Nat) : Int) = 41 from rfl] at this; rw [this]; exact decide_eq_false c2
          have HE : Hid (bal 0 t.data.toList = bal d (t.data.toList.drop (k + 1))) := by
            have := HD.out
            rw [if_neg c1, if_neg c2] at this
            exact this
          clear HD c1 c2
          go_wp2_with fail
          go_round
          case rel => exact ⟨k + 1, d, by omega, by omega, rfl, by go_num, HE.out⟩
          case measure => simp [intOf]; omega
    · have HE : Hid (bal 0 t.data.toList = (d == 0)) := by
        have := HI.out
        rwa [List.drop_of_length_le (show t.data.toList.length ≤ k by have : t.data.toList.length = t.size := rfl; omega), bal_nil] at this
      clear HI
      by_cases hd0 : d = 0
      · subst hd0
        go_wp2_with fail
        go_ret
        exact ⟨ret_bool (by rw [HE.out]; rfl), HG.out⟩
      · have f1 : ((d : Int) == 0) = false := by simp [hd0]
        have HE2 : Hid (bal 0 t.data.toList = false) := by rw [Hid, HE.out]; simp [hd0]
        clear HE hd0
        go_wp2_with fail
        go_ret
        exact ⟨ret_bool HE2.out.symm, HG.out⟩
def balP : Pat := someP 14 0 ByteArray.empty
theorem bal_err : patErr balP = 0 := by kernel_rfl
theorem balP_at (w : World) : PatV w (.slice none 0 0) balP := ⟨kids_none w, ⟨by show (-9223372036854775808 : Int) ≤ 14; omega, by show (14 : Int) ≤ 9223372036854775807; omega⟩, ⟨by show (-9223372036854775808 : Int) ≤ 0; omega, by show (0 : Int) ≤ 9223372036854775807; omega⟩, Nat.zero_le _, Nat.zero_le _⟩
theorem pairEnds_len : ∀ (l : List UInt8) (d a : Nat), (pairEnds l d a).length ≤ l.length
  | [], d, a => by simp [pairEnds]
  | c :: l, d, a => by
    rw [pairEnds.eq_def]
    dsimp only
    have b1 := fun d => pairEnds_len l d (a + 1)
    split
    · have := b1 (d + 1); simp; omega
    split
    · match d with
      | 0 => simp
      | 1 => have := b1 0; simp; omega
      | d + 2 => have := b1 (d + 1); simp; omega
    split
    · have := b1 0; simp; omega
    · have := b1 d; simp; omega
theorem bal_all (n : Nat) (hn : n ≤ s.size) (hs : s.size ≤ 1000) : allT [] s balP n = ((pairEnds (s.data.toList.drop n) 0 n).map (fun a => (a, [])), false, 0) ∧ allOk (allT [] s balP n) = true :=
  all_node (l := pairEnds (s.data.toList.drop n) 0 n) [] s (by
    unfold askErr
    rw [if_pos bal_err, if_pos (show rulesErr [] = 0 from rfl), if_neg (by omega), if_neg (by omega)]) hn rfl (by
    have := pairEnds_len (s.data.toList.drop n) 0 n
    rw [List.length_drop] at this
    have h2 : s.data.toList.length = s.size := rfl
    omega)
theorem piece (s : ByteArray) (a b : Nat) : (s.extract a b).data.toList = (s.data.toList.drop a).take (b - a) := Lib.extract_data s a b
set_option maxRecDepth 100000 in
set_option maxHeartbeats 4000000 in
theorem ScanBal_walk (at_ : Int) (hs : s.size ≤ maxLen) (hat : -9223372036854775808 ≤ at_ ∧ at_ ≤ 9223372036854775807) (hT : TabP w) :
    Calls Tryd.prog 3 #[.string s, .int .i64 at_] w fun e w' => e = .returned (.bool true) ∧ Grew w w' := by
  have HAl : Hid (∀ w1, Grew w w1 → Calls Tryd.prog 9 #[] w1 fun e w' => e = .returned (.bool true) ∧ Grew w1 w') := fun w1 g => alive_any w1 (hT.kept g)
  by_cases hr : at_ < 0 ∨ (s.size : Int) < at_ ∨ 1000 < s.size
  · have hr2 : at_ < 0 ∨ (0 ≤ at_ ∧ (s.size : Int) < at_) ∨ (0 ≤ at_ ∧ at_ ≤ (s.size : Int) ∧ 1000 < (s.size : Int)) := by omega
    unfold maxLen at hs
    clear hr hT hat
    rcases hr2 with h | h | h
    all_goals
      go_enter Tryd.func3, Tryd.ntmps3
      go_wp2_with fail
      refine (HAl.out _ (Grew.refl w)).mono ?_; rintro e w1 ⟨rfl, g1⟩
      have HG := hidd g1
      clear g1
      go_wp2_with fail
      go_ret
      exact ⟨rfl, HG.out⟩
  · obtain ⟨n, rfl⟩ : ∃ n : Nat, at_ = n := ⟨at_.toNat, by omega⟩
    have hn : n ≤ s.size := by omega
    have h1000 : s.size ≤ 1000 := by omega
    obtain ⟨hall, hok⟩ := bal_all n hn h1000
    have HC : Hid (∀ (k m : Int) w1, (0 ≤ k ∧ k ≤ 24) → (0 ≤ m ∧ m ≤ 65536) → Calls Tryd.prog 11 #[.int .i64 k, .int .i64 m, .string ⟨#[]⟩] w1 fun e w' => e = .returned (.agg #[.int .i64 k, .string ByteArray.empty, .int .i64 m, .string ByteArray.empty, .slice none 0 0]) ∧ Grew w1 w') :=
      fun k m w1 hk hm => (some_any k m ByteArray.empty w1 (by omega) (by omega) (Nat.zero_le _)).mono fun e w' h => ⟨h.1, h.2.1⟩
    have HAA : Hid (∀ w1, Grew w w1 → Calls Tryd.prog 10 #[.slice none 0 0, .agg #[.int .i64 14, .string ByteArray.empty, .int .i64 0, .string ByteArray.empty, .slice none 0 0], .string s, .int .i64 n] w1 fun e w' => Grew w1 w' ∧ ∃ a c, e = .returned (.tuple #[.slice a (pairEnds (s.data.toList.drop n) 0 n).length c, .bool false, .bool true]) ∧ WaysV w' (.slice a (pairEnds (s.data.toList.drop n) 0 n).length c) ((pairEnds (s.data.toList.drop n) 0 n).map (fun a => ((a, []) : Way)))) :=
      fun w1 g => (all_any (p := balP) (kv := .slice none 0 0) n (rules_none w1) (balP_at w1) hs (hT.kept g)).mono fun e w' ⟨h1, a, c, h2, h3⟩ => by
        rw [hok, hall] at h2
        rw [hall] at h3
        dsimp only at h2 h3
        rw [List.length_map] at h2 h3
        exact ⟨h1, a, c, h2, h3⟩
    have HBl : Hid (∀ (e : Nat) w1, e ≤ s.size → Calls Tryd.prog 12 #[.string (s.extract n e)] w1 fun x w' => x = .returned (.bool (bal 0 ((s.data.toList.drop n).take (e - n)))) ∧ Grew w1 w') :=
      fun e w1 he => (Balanced_any (by rw [size_data, piece]; have := List.length_take_le (e - n) (s.data.toList.drop n); omega)).mono fun x w' h => ⟨by rw [h.1, piece], h.2⟩
    obtain ⟨l, hl⟩ : ∃ l, s.data.toList.drop n = l := ⟨_, rfl⟩
    have hll : l.length = s.size - n := by rw [← hl, List.length_drop]; rfl
    have HLL := hidd hll
    rw [hl] at HAA HBl
    have HB0 := hidd (balAt_zero l n)
    have hPl : (pairEnds l 0 n).length ≤ 1000 := by have := pairEnds_len l 0 n; omega
    obtain ⟨P, hP⟩ : ∃ P, pairEnds l 0 n = P := ⟨_, rfl⟩
    rw [hP] at HAA HB0 hPl
    clear hall hok hr hT hat hs hl hP hll
    go_enter Tryd.func3, Tryd.ntmps3
    go_wp2_with fail
    refine (HAl.out _ (Grew.refl w)).mono ?_; rintro e w1 ⟨rfl, g1⟩
    have G1 := hidd g1
    clear g1 HAl
    go_wp2_with fail
    refine (HC.out 14 0 _ (by omega) (by omega)).mono ?_; rintro e w2 ⟨rfl, g2⟩
    have G2 := hidd (G1.out.trans g2)
    clear g2
    go_wp2_with fail
    refine (HAA.out _ G2.out).mono ?_; rintro e w3 ⟨g3, b, c', rfl, hv⟩
    have G3 := hidd (And.intro (G2.out.trans g3) hv)
    have hcl : P.length ≤ c' := by
      obtain ⟨_, c2, e, h, _⟩ := hv.len
      rw [List.length_map] at e h
      cases e; exact h
    clear g3 hv HAA
    go_wp2_with fail
    go_loopg [8, 9] (s.size + 1) (fun kk s8 s9 wr => ∃ (k i : Nat), s8 = .int .i64 k ∧ s9 = .int .i64 ((n + i + 1 : Nat) : Int) ∧ Hid (Grew w3 wr ∧ BalAt l n i (P.drop k)) ∧ n + i ≤ s.size ∧ k ≤ P.length ∧ s.size + 1 ≤ kk + (n + i))
    case atStart => exact ⟨0, 0, rfl, by go_num, ⟨Grew.refl _, HB0.out⟩, by omega, by omega, by omega⟩
    case round =>
      obtain ⟨k, i, rfl, rfl, HI, hi, hkP, hkk⟩ := hrel
      have hb1 : n + i + 1 ≤ 1001 := by omega
      by_cases hlt : n + i + 1 ≤ s.size
      · have hst := balAt_step HI.out.2 (show i < l.length by rw [HLL.out]; omega)
        have HIr := hidd HI.out.1
        have hx := HBl.out (n + i + 1) wr hlt
        rw [show n + i + 1 - n = i + 1 by omega] at hx
        rcases hst with ⟨hb, hB⟩ | ⟨hb, L', hL, hB⟩
        · rw [hb] at hx
          have HBx := hidd hx
          have HB2 := hidd hB
          clear HI hx hb hB
          go_wp2_with fail
          refine HBx.out.mono ?_; rintro x w4 ⟨rfl, g4⟩
          have HG4 := hidd (HIr.out.trans g4)
          clear g4 HBx HIr
          go_wp2_with fail
          go_roundg (s.size + 1 - (n + (i + 1)))
          case rel => exact ⟨k, i + 1, rfl, by go_num, ⟨HG4.out, HB2.out⟩, by omega, by omega, by omega⟩
          case measure => omega
        · rw [hb] at hx
          have hkl : k < P.length := by
            have := congrArg List.length hL
            rw [List.length_drop] at this
            simp at this; omega
          have hdk : P.drop k = P[k] :: P.drop (k + 1) := List.drop_eq_getElem_cons hkl
          rw [hdk] at hL
          simp only [List.cons.injEq] at hL
          obtain ⟨hPk, hL2⟩ := hL
          subst hL2
          have HBx := hidd hx
          have HB2 := hidd hB
          obtain ⟨bb, ob, rfl, a0'⟩ : ∃ b1 o : Nat, b = some ⟨b1, o, none⟩ ∧ w3.cell? ⟨b1, o + k * 2, none⟩ = some (.int .i64 ((n + i + 1 : Nat) : Int)) := by
            rcases G3.out.2 with ⟨_, _, e, e2⟩ | ⟨b, o, c, e, _, _, _, h⟩
            · have := congrArg List.length e2
              rw [List.length_map, List.length_nil] at this
              omega
            · rw [List.length_map] at e h
              cases e
              refine ⟨b, o, rfl, ?_⟩
              have := (h k hkl).1
              rw [List.getD_eq_getElem?_getD, List.getElem?_map, List.getElem?_eq_getElem hkl] at this
              rw [this]
              show some (Value.int .i64 ((P[k] : Nat) : Int)) = _
              rw [hPk]
          have ACell : Hid (∀ w4, Grew wr w4 → w4.cell? ⟨bb, ob + k * 2, none⟩ = some (.int .i64 ((n + i + 1 : Nat) : Int))) := fun w4 g => (HIr.out.trans g).keeps a0'
          clear HI hx hb hB hdk hPk a0'
          go_wp2_with fail
          refine HBx.out.mono ?_; rintro x w4 ⟨rfl, g4⟩
          have HG4 := hidd (HIr.out.trans g4)
          have a0 := ACell.out w4 g4
          have f1 : (((n + i + 1 : Nat) : Int) != ((n + i + 1 : Nat) : Int)) = false := by simp
          clear g4 HBx HIr ACell
          go_wp2_with fail
          go_roundg (s.size + 1 - (n + (i + 1)))
          case rel => exact ⟨k + 1, i + 1, by go_num, by go_num, ⟨HG4.out, HB2.out⟩, by omega, by omega, by omega⟩
          case measure => omega
      · have hk2 : k = P.length := by
          have := HI.out.2
          rw [show i = l.length by rw [HLL.out]; omega] at this
          have := congrArg List.length (balAt_end this)
          rw [List.length_drop] at this
          simp at this; omega
        have HGF := hidd (G3.out.1.trans HI.out.1)
        subst hk2
        clear HI
        go_wp2_with fail
        go_ret
        exact ⟨rfl, HGF.out⟩
end
end Go.Proofs.YtmkldfjcpmoajabDoor
