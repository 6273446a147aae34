/- ScanLens: the walk. Conditions: what the arguments are read as; the library's table of powers of ten. -/
import Derived.Test.YtmkldfjcpmoajaaDoorScLit
import Derived.Test.YtmkldfjcpmoajaaDoorScPlain
namespace Go.Proofs.YtmkldfjcpmoajaaDoor
open Go.RowKit
set_option linter.unusedVariables false
section
variable {w : World} {t u s : ByteArray}
theorem some_at' (k n : Int) (t : ByteArray) (w : World) (hk : -9223372036854775808 ≤ k ∧ k ≤ 9223372036854775807) (hn : -9223372036854775808 ≤ n ∧ n ≤ 9223372036854775807) (h : t.size ≤ maxLen) : PatV w (.slice none 0 0) (someP k n t) :=
  ⟨kids_none w, hk, hn, h, Nat.zero_le _⟩
/-- Two leaves in a new block. -/
theorem kids_two {w : World} {b : Nat} {k n k' n' : Int} {t t' : ByteArray} (hb : w.heap[b]? = some (.cells #[.int .i64 k, .string t, .int .i64 n, .string ByteArray.empty, .slice none 0 0, .int .i64 k', .string t', .int .i64 n', .string ByteArray.empty, .slice none 0 0] 25 (0, 0)))
    (hp : PatV w (.slice none 0 0) (someP k n t)) (hq : PatV w (.slice none 0 0) (someP k' n' t')) : KidsAt w (.slice (some ⟨b, 0, none⟩) 2 2) [someP k n t, someP k' n' t'] := by
  refine Or.inr ⟨b, 0, 2, rfl, by show 0 < 2; omega, Nat.le_refl _, by unfold maxLen; omega, fun i hi => ?_⟩
  match i, hi with
  | 0, _ => exact pat_in hp (Grew.refl w) (by simp [World.cell?, hb]; rfl) (by simp [World.cell?, hb]; rfl) (by simp [World.cell?, hb]; rfl) (by simp [World.cell?, hb]; rfl) (by simp [World.cell?, hb])
  | 1, _ => exact pat_in hq (Grew.refl w) (by simp [World.cell?, hb]; rfl) (by simp [World.cell?, hb]; rfl) (by simp [World.cell?, hb]; rfl) (by simp [World.cell?, hb]; rfl) (by simp [World.cell?, hb])
set_option maxRecDepth 100000 in
set_option maxHeartbeats 4000000 in
theorem Lens_out (n m at_ : Int) (hr : n < 0 ∨ m < 0 ∨ 65536 < n ∨ 65536 < m ∨ 65536 < n + m ∨ 65536 < t.size + u.size) (hn : -9223372036854775808 ≤ n ∧ n ≤ 9223372036854775807) (hm : -9223372036854775808 ≤ m ∧ m ≤ 9223372036854775807) (ht : t.size ≤ 140737488355328) (hu : u.size ≤ 140737488355328) (hT : TabP w) :
    Calls Tryd.prog 11 #[.int .i64 n, .int .i64 m, .string t, .string u, .string s, .int .i64 at_] w fun e w' => e = .returned (.bool true) ∧ Grew w w' := by
  have HAl : Hid (∀ w1, Grew w w1 → Calls Tryd.prog 23 #[] w1 fun e w' => e = .returned (.bool true) ∧ Grew w1 w') := fun w1 g => alive_any w1 (hT.kept g)
  have hr2 : n < 0 ∨ (0 ≤ n ∧ m < 0) ∨ (0 ≤ n ∧ 0 ≤ m ∧ 65536 < n) ∨ (0 ≤ n ∧ 0 ≤ m ∧ n ≤ 65536 ∧ 65536 < m) ∨ (0 ≤ n ∧ 0 ≤ m ∧ n ≤ 65536 ∧ m ≤ 65536 ∧ 65536 < n + m) ∨ (0 ≤ n ∧ 0 ≤ m ∧ n ≤ 65536 ∧ m ≤ 65536 ∧ n + m ≤ 65536 ∧ 65536 < (t.size : Int) + (u.size : Int)) := by omega
  clear hr hT
  rcases hr2 with ⟨h1⟩ | ⟨h1, h2⟩ | ⟨h1, h2, h3⟩ | ⟨h1, h2, h3, h4⟩ | ⟨h1, h2, h3, h4, h5⟩ | ⟨h1, h2, h3, h4, h5, h6⟩
  all_goals
    go_enter Tryd.func11, Tryd.ntmps11
    go_wp2_with fail
    refine (HAl.out _ (Grew.refl w)).mono ?_; rintro e w1 ⟨rfl, g1⟩
    have HG := hidd g1
    clear g1
    go_wp2_with fail
    go_ret
    exact ⟨rfl, HG.out⟩
set_option maxRecDepth 100000 in
set_option maxHeartbeats 4000000 in
theorem ScanLens_walk (n m at_ : Int) (hn : -9223372036854775808 ≤ n ∧ n ≤ 9223372036854775807) (hm : -9223372036854775808 ≤ m ∧ m ≤ 9223372036854775807) (ht : t.size ≤ 140737488355328) (hu : u.size ≤ 140737488355328) (hs0 : s.size ≤ 140737488355328) (hat : -9223372036854775808 ≤ at_ ∧ at_ ≤ 9223372036854775807) (hT : TabP w) :
    Calls Tryd.prog 11 #[.int .i64 n, .int .i64 m, .string t, .string u, .string s, .int .i64 at_] w fun e w' => e = .returned (.bool true) ∧ Grew w w' := by
  by_cases hr : n < 0 ∨ m < 0 ∨ 65536 < n ∨ 65536 < m ∨ 65536 < n + m ∨ 65536 < t.size + u.size
  · exact Lens_out n m at_ hr hn hm ht hu hT
  · have HAl : Hid (∀ w1, Grew w w1 → Calls Tryd.prog 23 #[] w1 fun e w' => e = .returned (.bool true) ∧ Grew w1 w') := fun w1 g => alive_any w1 (hT.kept g)
    have hs : s.size ≤ maxLen := by unfold maxLen; omega
    have h1 : 0 ≤ n := by omega
    have h2 : 0 ≤ m := by omega
    have h3 : n ≤ 65536 := by omega
    have h4 : m ≤ 65536 := by omega
    have h5 : n + m ≤ 65536 := by omega
    have h6 : (t.size : Int) + (u.size : Int) ≤ 65536 := by omega
    have B := hidd (And.intro (show 0 ≤ n ∧ n ≤ 65536 by omega) (And.intro (show 0 ≤ m ∧ m ≤ 65536 by omega) (show 0 ≤ n + m ∧ n + m ≤ 65536 by omega)))
    have ZT := hidd (And.intro (show t.size ≤ 65536 by omega) (And.intro (show u.size ≤ 65536 by omega) (show (t ++ u).size ≤ 65536 by rw [ByteArray.size_append]; omega)))
    have HC : Hid (∀ (k m : Int) w1, (0 ≤ k ∧ k ≤ 24) → (0 ≤ m ∧ m ≤ 65536) → Calls Tryd.prog 27 #[.int .i64 k, .int .i64 m, .string ⟨#[]⟩] w1 fun e w' => e = .returned (.agg #[.int .i64 k, .string ByteArray.empty, .int .i64 m, .string ByteArray.empty, .slice none 0 0]) ∧ Grew w1 w') :=
      fun k m w1 hk hm => (some_any k m ByteArray.empty w1 (by omega) (by omega) (Nat.zero_le _)).mono fun e w' h => ⟨h.1, h.2.1⟩
    have HCt : Hid (∀ (k : Int) w1, (0 ≤ k ∧ k ≤ 24) → Calls Tryd.prog 27 #[.int .i64 k, .int .i64 0, .string t] w1 fun e w' => e = .returned (.agg #[.int .i64 k, .string t, .int .i64 0, .string ByteArray.empty, .slice none 0 0]) ∧ Grew w1 w') :=
      fun k w1 hk => (some_any k 0 t w1 (by omega) (by omega) (by unfold maxLen; omega)).mono fun e w' h => ⟨h.1, h.2.1⟩
    have HLt : Hid (∀ (x : ByteArray) w1, x.size ≤ 65536 → Calls Tryd.prog 28 #[.string x] w1 fun e w' => e = .returned (.agg #[.int .i64 1, .string x, .int .i64 0, .string ByteArray.empty, .slice none 0 0]) ∧ Grew w1 w') :=
      fun x w1 hx => (lit_any x w1 (by unfold maxLen; omega)).mono fun e w' h => ⟨h.1, h.2.1⟩
    have HCat : Hid (∀ (b : Nat) (k n k' n' : Int) (x x' : ByteArray) w1, (0 ≤ k ∧ k ≤ 24) → (0 ≤ n ∧ n ≤ 65536) → (0 ≤ k' ∧ k' ≤ 24) → (0 ≤ n' ∧ n' ≤ 65536) → x.size ≤ 65536 → x'.size ≤ 65536 → w1.heap[b]? = some (.cells #[.int .i64 k, .string x, .int .i64 n, .string ByteArray.empty, .slice none 0 0, .int .i64 k', .string x', .int .i64 n', .string ByteArray.empty, .slice none 0 0] 25 (0, 0)) →
        Calls Tryd.prog 25 #[.slice (some ⟨b, 0, none⟩) 2 2] w1 fun e w' => e = .returned (.agg #[.int .i64 18, .string ByteArray.empty, .int .i64 0, .string ByteArray.empty, .slice (some ⟨b, 0, none⟩) 2 2]) ∧ Grew w1 w' ∧ PatV w' (.slice (some ⟨b, 0, none⟩) 2 2) (catP [someP k n x, someP k' n' x'])) :=
      fun b k n k' n' x x' w1 a1 a2 a3 a4 a5 a6 hb => cat_any _ _ w1 (kids_two hb (some_at' k n x w1 (by omega) (by omega) (by unfold maxLen; omega)) (some_at' k' n' x' w1 (by omega) (by omega) (by unfold maxLen; omega)))
    have HK : Hid (∀ (b : Option Addr) (c : Nat) (l : List Pat) (k m : Int) (x : ByteArray) w1, (0 ≤ k ∧ k ≤ 24) → (0 ≤ m ∧ m ≤ 65536) → x.size ≤ 65536 → Grew w w1 → PatV w1 (.slice b 2 c) (catP l) → alikeB [] s (catP l) (someP k m x) at_ = true →
        Calls Tryd.prog 24 #[.slice none 0 0, .agg #[.int .i64 18, .string ByteArray.empty, .int .i64 0, .string ByteArray.empty, .slice b 2 c], .agg #[.int .i64 k, .string x, .int .i64 m, .string ByteArray.empty, .slice none 0 0], .string s, .int .i64 at_] w1 fun e w' => e = .returned (.bool true) ∧ Grew w1 w') :=
      fun b c l k m x w1 a1 a2 a3 g hp ha => (alike_any (p := catP l) (q := someP k m x) at_ (rules_none w1) hp (some_at' k m x w1 (by omega) (by omega) (by unfold maxLen; omega)) hs (hT.kept g)).mono fun e w' h => ⟨by rw [h.1, ha], h.2⟩
    have HAA : Hid (∀ (k : Int) w1, (0 ≤ k ∧ k ≤ 24) → Grew w w1 → Calls Tryd.prog 29 #[.slice none 0 0, .agg #[.int .i64 k, .string t, .int .i64 0, .string ByteArray.empty, .slice none 0 0], .string s, .int .i64 at_] w1 fun e w' => Grew w1 w' ∧ ∃ a c, e = .returned (.tuple #[.slice a (allT [] s (someP k 0 t) at_).1.length c, .bool (allT [] s (someP k 0 t) at_).2.1, .bool (allOk (allT [] s (someP k 0 t) at_))])) :=
      fun k w1 hk g => (all_any (p := someP k 0 t) (kv := .slice none 0 0) at_ (rules_none w1) (some_at' k 0 t w1 (by omega) (by omega) (by unfold maxLen; omega)) hs (hT.kept g)).mono fun e w' ⟨q1, a, c, q2, q3⟩ => ⟨q1, a, c, q2⟩
    have A1 := hidd (lens_len (R := []) (s := s) n m h1 h2 ByteArray.empty ByteArray.empty ByteArray.empty at_)
    have A2 := hidd (lens_lit (R := []) (s := s) t u at_)
    have A3 : Hid (∀ k : Nat, at_ = k → k ≤ s.size → allOk (allT [] s (someP 3 0 t) at_) = true → allOk (allT [] s (someP 4 0 t) at_) = true → (allT [] s (someP 3 0 t) at_).1.length + (allT [] s (someP 4 0 t) at_).1.length = if k < s.size then 1 else 0) := fun k e hk x1 x2 => by
      subst e; exact any_both x1 x2
    have hsz : (s.size : Int) ≤ 9223372036854775807 := by unfold maxLen at hs; omega
    clear hr hT hn hm ht hu hs hs0
    go_enter Tryd.func11, Tryd.ntmps11
    go_wp2_with fail
    refine (HAl.out _ (Grew.refl w)).mono ?_; rintro e w1 ⟨rfl, g1⟩
    have G1 := hidd g1
    clear g1 HAl
    go_wp2_with fail
    refine (HC.out 2 n _ (by omega) B.out.1).mono ?_; rintro e w2 ⟨rfl, g2⟩
    have G2 := hidd (G1.out.trans g2)
    clear g2
    go_wp2_with fail
    refine (HC.out 2 m _ (by omega) B.out.2.1).mono ?_; rintro e w3 ⟨rfl, g3⟩
    have G3 := hidd (G2.out.trans g3)
    clear g3
    go_wp2_with fail
    refine (HCat.out w3.heap.size 2 n 2 m ByteArray.empty ByteArray.empty _ (by omega) B.out.1 (by omega) B.out.2.1 (Nat.zero_le _) (Nat.zero_le _) (heap_alloc_new w3 _)).mono ?_; rintro e w4 ⟨rfl, g4, hp4⟩
    have G4 := hidd ((G3.out.alloc _).trans g4)
    have HP4 := hidd hp4
    clear g4 hp4
    go_wp2_with fail
    refine (HC.out 2 (n + m) _ (by omega) B.out.2.2).mono ?_; rintro e w5 ⟨rfl, g5⟩
    have G5 := hidd (G4.out.trans g5)
    have HP5 := hidd (HP4.out.kept g5)
    clear g5 HP4
    go_wp2_with fail
    refine (HK.out _ _ _ 2 (n + m) _ _ (by omega) B.out.2.2 (Nat.zero_le _) G5.out HP5.out A1.out).mono ?_; rintro e w6 ⟨rfl, g6⟩
    have G6 := hidd (G5.out.trans g6)
    clear g6 HP5
    go_wp2_with fail
    refine (HLt.out t _ ZT.out.1).mono ?_; rintro e w7 ⟨rfl, g7⟩
    have G7 := hidd (G6.out.trans g7)
    clear g7
    go_wp2_with fail
    refine (HLt.out u _ ZT.out.2.1).mono ?_; rintro e w8 ⟨rfl, g8⟩
    have G8 := hidd (G7.out.trans g8)
    clear g8
    go_wp2_with fail
    refine (HCat.out w8.heap.size 1 0 1 0 t u _ (by omega) (by omega) (by omega) (by omega) ZT.out.1 ZT.out.2.1 (heap_alloc_new w8 _)).mono ?_; rintro e w9 ⟨rfl, g9, hp9⟩
    have G9 := hidd ((G8.out.alloc _).trans g9)
    have HP9 := hidd hp9
    clear g9 hp9
    go_wp2_with fail
    refine (HLt.out (t ++ u) _ ZT.out.2.2).mono ?_; rintro e w10 ⟨rfl, g10⟩
    have G10 := hidd (G9.out.trans g10)
    have HP10 := hidd (HP9.out.kept g10)
    clear g10 HP9
    go_wp2_with fail
    refine (HK.out _ _ _ 1 0 (t ++ u) _ (by omega) (by omega) ZT.out.2.2 G10.out HP10.out A2.out).mono ?_; rintro e w11 ⟨rfl, g11⟩
    have G11 := hidd (G10.out.trans g11)
    clear g11 HP10
    by_cases hte : t = ByteArray.empty
    · subst hte
      clear HCt HAA A3
      go_wp2_with fail
      go_ret
      exact ⟨rfl, G11.out⟩
    · have f0 : t.toList.isEmpty = false := by
        cases h : t.toList with
        | nil => exact absurd (str_ext (by rw [ByteArray.toList_eq] at h; rw [h]; rfl)) hte
        | cons a l => rfl
      clear hte
      go_wp2_with fail
      refine (HCt.out 3 _ (by omega)).mono ?_; rintro e w12 ⟨rfl, g12⟩
      have G12 := hidd (G11.out.trans g12)
      clear g12
      go_wp2_with fail
      refine (HAA.out 3 _ (by omega) G12.out).mono ?_; rintro e w13 ⟨g13, xa, xc, rfl⟩
      have G13 := hidd (G12.out.trans g13)
      clear g13
      go_wp2_with fail
      refine (HCt.out 4 _ (by omega)).mono ?_; rintro e w14 ⟨rfl, g14⟩
      have G14 := hidd (G13.out.trans g14)
      clear g14
      go_wp2_with fail
      refine (HAA.out 4 _ (by omega) G14.out).mono ?_; rintro e w15 ⟨g15, ya, yc, rfl⟩
      have G15 := hidd (G14.out.trans g15)
      clear g15 HAA HCt HC HK HCat HLt A1 A2 G1 G2 G3 G4 G5 G6 G7 G8 G9 G10 G11 G12 G13 G14 B ZT f0
      generalize allT [] s (someP 3 0 t) at_ = x at A3 ⊢
      generalize allT [] s (someP 4 0 t) at_ = y at A3 ⊢
      obtain ⟨la, ca, ea⟩ := x
      obtain ⟨lb, cb, eb⟩ := y
      dsimp only at A3 ⊢
      generalize allOk (la, ca, ea) = oa at A3 ⊢
      generalize allOk (lb, cb, eb) = ob at A3 ⊢
      generalize la.length = na at A3 ⊢
      generalize lb.length = nb at A3 ⊢
      cases oa with
      | false =>
        go_wp2_with fail
        go_ret
        exact ⟨rfl, G15.out⟩
      | true =>
        cases ob with
        | false =>
          go_wp2_with fail
          go_ret
          exact ⟨rfl, G15.out⟩
        | true =>
          by_cases hneg : at_ < 0
          · clear A3
            go_wp2_with fail
            go_ret
            exact ⟨rfl, G15.out⟩
          · by_cases hbig : (s.size : Int) < at_
            · clear A3
              go_wp2_with fail
              go_ret
              exact ⟨rfl, G15.out⟩
            · obtain ⟨k, rfl⟩ : ∃ k : Nat, at_ = k := ⟨at_.toNat, by omega⟩
              have hsum := A3.out k rfl (by omega) rfl rfl
              by_cases hk : k < s.size
              · rw [if_pos hk] at hsum
                have q1 : (na = 1 ∧ nb = 0) ∨ (na = 0 ∧ nb = 1) := by omega
                clear hsum A3
                rcases q1 with ⟨rfl, rfl⟩ | ⟨rfl, rfl⟩
                all_goals
                  go_wp2_with fail
                  go_ret
                  exact ⟨rfl, G15.out⟩
              · rw [if_neg hk] at hsum
                obtain rfl : na = 0 := by omega
                obtain rfl : nb = 0 := by omega
                obtain rfl : k = s.size := by omega
                clear hsum A3
                go_wp2_with fail
                go_ret
                exact ⟨rfl, G15.out⟩
end
end Go.Proofs.YtmkldfjcpmoajaaDoor
