/- ScanArb: the walk. Conditions: what the arguments are read as; the library's table of powers of ten. -/
import Derived.Test.YtmkldfjcpmoajaaDoorScShape
import Derived.Test.YtmkldfjcpmoajaaDoorScPlain
namespace Go.Proofs.YtmkldfjcpmoajaaDoor
open Go.RowKit
set_option linter.unusedVariables false
section
variable {w : World} {s : ByteArray}
def arbP : Pat := someP 13 0 ByteArray.empty
theorem arb_err : patErr arbP = 0 := by kernel_rfl
theorem ask_of {R : List Rule} {p : Pat} {s : ByteArray} {fuel : Int} (h1 : patErr p = 0) (h2 : rulesErr R = 0) (h3 : s.size ≤ 65536) (h4 : 0 ≤ fuel ∧ fuel ≤ 100000) : askErr R p s fuel = 0 := by
  unfold askErr
  rw [if_pos h1, if_pos h2, if_neg (by omega), if_neg (by omega)]
theorem arb_all (n : Nat) (hn : n ≤ s.size) (hs : s.size ≤ 1000) : allT [] s arbP n = ((List.range' n (s.size - n + 1)).map (fun a => (a, [])), false, 0) ∧ allOk (allT [] s arbP n) = true :=
  all_node (l := List.range' n (s.size - n + 1)) [] s (ask_of arb_err rfl (by omega) (by omega)) hn rfl (by rw [List.length_range']; omega)
theorem arb_get (n L k : Nat) (hk : k < L) : (((List.range' n L).map (fun a => ((a, []) : Way))).getD k way0) = (n + k, []) := by
  rw [List.getD_eq_getElem?_getD, List.getElem?_map, List.getElem?_range' hk]
  simp
set_option maxRecDepth 100000 in
set_option maxHeartbeats 4000000 in
theorem ScanArb_walk (at_ : Int) (hs : s.size ≤ maxLen) (hat : -9223372036854775808 ≤ at_ ∧ at_ ≤ 9223372036854775807) (hT : TabP w) :
    Calls Tryd.prog 14 #[.string s, .int .i64 at_] w fun e w' => e = .returned (.bool true) ∧ Grew w w' := by
  have HAl : Hid (∀ w1, Grew w w1 → Calls Tryd.prog 23 #[] w1 fun e w' => e = .returned (.bool true) ∧ Grew w1 w') := fun w1 g => alive_any w1 (hT.kept g)
  by_cases hr : at_ < 0 ∨ (s.size : Int) < at_ ∨ 1000 < s.size
  · have hr2 : at_ < 0 ∨ (0 ≤ at_ ∧ (s.size : Int) < at_) ∨ (0 ≤ at_ ∧ at_ ≤ (s.size : Int) ∧ 1000 < (s.size : Int)) := by omega
    unfold maxLen at hs
    clear hr hT hat
    rcases hr2 with h | h | h
    all_goals
      go_enter Tryd.func14, Tryd.ntmps14
      go_wp2_with fail
      refine (HAl.out _ (Grew.refl w)).mono ?_; rintro e w1 ⟨rfl, g1⟩
      have HG := hidd g1
      clear g1
      go_wp2_with fail
      go_ret
      exact ⟨rfl, HG.out⟩
  · obtain ⟨n, rfl⟩ : ∃ n : Nat, at_ = n := ⟨at_.toNat, by omega⟩
    have hn : n ≤ s.size := by omega
    have h1000 : s.size ≤ 1000 := by omega
    obtain ⟨hall, hok⟩ := arb_all n hn h1000
    have HC : Hid (∀ (k m : Int) w1, (0 ≤ k ∧ k ≤ 24) → (0 ≤ m ∧ m ≤ 65536) → Calls Tryd.prog 27 #[.int .i64 k, .int .i64 m, .string ⟨#[]⟩] w1 fun e w' => e = .returned (.agg #[.int .i64 k, .string ByteArray.empty, .int .i64 m, .string ByteArray.empty, .slice none 0 0]) ∧ Grew w1 w') :=
      fun k m w1 hk hm => (some_any k m ByteArray.empty w1 (by omega) (by omega) (Nat.zero_le _)).mono fun e w' h => ⟨h.1, h.2.1⟩
    have HAA : Hid (∀ w1, Grew w w1 → Calls Tryd.prog 29 #[.slice none 0 0, .agg #[.int .i64 13, .string ByteArray.empty, .int .i64 0, .string ByteArray.empty, .slice none 0 0], .string s, .int .i64 n] w1 fun e w' => Grew w1 w' ∧ ∃ a c, e = .returned (.tuple #[.slice a (s.size - n + 1) c, .bool false, .bool true]) ∧ WaysV w' (.slice a (s.size - n + 1) c) ((List.range' n (s.size - n + 1)).map (fun a => ((a, []) : Way)))) :=
      fun w1 g => (all_any (p := arbP) (kv := .slice none 0 0) n (rules_none w1) (arbW_at w1) hs (hT.kept g)).mono fun e w' ⟨h1, a, c, h2, h3⟩ => by
        rw [hok, hall] at h2
        rw [hall] at h3
        dsimp only at h2 h3
        rw [List.length_map, List.length_range'] at h2 h3
        exact ⟨h1, a, c, h2, h3⟩
    have HK : Hid (∀ b w1, Grew w w1 → w1.heap[b]? = some (.cells #[.int .i64 2, .string ByteArray.empty, .int .i64 1, .string ByteArray.empty, .slice none 0 0] 25 (0, 0)) → Calls Tryd.prog 24 #[.slice none 0 0, .agg #[.int .i64 13, .string ByteArray.empty, .int .i64 0, .string ByteArray.empty, .slice none 0 0], .agg #[.int .i64 20, .string ByteArray.empty, .int .i64 0, .string ByteArray.empty, .slice (some ⟨b, 0, none⟩) 1 1], .string s, .int .i64 n] w1 fun e w' => e = .returned (.bool true) ∧ Grew w1 w') :=
      fun b w1 g hb => by
        obtain ⟨k0, k1, k2, k3, k4⟩ := box_five hb
        have hp1 : PatV w1 (.slice (some ⟨b, 0, none⟩) 1 1) (arbnoP (someP 2 1 ByteArray.empty)) := ⟨Or.inr ⟨b, 0, 1, rfl, Nat.one_pos, Nat.le_refl _, by unfold maxLen; omega, fun k hk => by
          obtain rfl : k = 0 := by have : k < 1 := hk; omega
          exact .leaf b 0 2 ByteArray.empty 1 ByteArray.empty none 0 k0 k1 k2 k3 k4 (by omega) (by omega) (Nat.zero_le _) (Nat.zero_le _)⟩, ⟨by show (-9223372036854775808 : Int) ≤ 20; omega, by show (20 : Int) ≤ 9223372036854775807; omega⟩, ⟨by show (-9223372036854775808 : Int) ≤ 0; omega, by show (0 : Int) ≤ 9223372036854775807; omega⟩, Nat.zero_le _, Nat.zero_le _⟩
        exact (alike_any (p := arbP) (q := arbnoP (someP 2 1 ByteArray.empty)) n (rules_none w1) (arbW_at w1) hp1 hs (hT.kept g)).mono fun e w' h => ⟨by rw [h.1, show alikeB [] s arbP (arbnoP (someP 2 1 ByteArray.empty)) n = true from arb_arbno _ _ _], h.2⟩
    have HL : Hid (((s.size - n + 1 : Nat) : Int) = (s.size : Int) - n + 1) := by show ((s.size - n + 1 : Nat) : Int) = _; omega
    have hneq : (((s.size - n + 1 : Nat) : Int) != (s.size : Int) - (n : Int) + 1) = false := by rw [HL.out]; simp
    have hLb : s.size - n + 1 ≤ 1001 := by omega
    obtain ⟨L, hL⟩ : ∃ L, s.size - n + 1 = L := ⟨_, rfl⟩
    rw [hL] at HAA hneq hLb
    clear hall hok hr hT hat hs HL
    go_enter Tryd.func14, Tryd.ntmps14
    clear hL
    go_wp2_with fail
    refine (HAl.out _ (Grew.refl w)).mono ?_; rintro e w1 ⟨rfl, g1⟩
    have G1 := hidd g1
    clear g1 HAl
    go_wp2_with fail
    refine (HC.out 13 0 _ (by omega) (by omega)).mono ?_; rintro e w2 ⟨rfl, g2⟩
    have G2 := hidd (G1.out.trans g2)
    clear g2
    go_wp2_with fail
    refine (HAA.out _ G2.out).mono ?_; rintro e w3 ⟨g3, b, c', rfl, hv⟩
    have G3 := hidd (And.intro (G2.out.trans g3) hv)
    have hcl : L ≤ c' := by
      obtain ⟨_, c2, e, h, _⟩ := hv.len
      rw [List.length_map, List.length_range'] at e h
      cases e; exact h
    clear g3 hv HAA
    go_wp2_with fail
    clear hneq
    go_loopg [8, 9, 50] (L + 1) (fun kk _ _ s50 wr => ∃ k : Nat, s50 = .int .i64 k ∧ Hid (Grew w3 wr) ∧ L + 1 ≤ kk + k ∧ k ≤ L)
    case atStart => exact ⟨0, rfl, Grew.refl _, by omega, by omega⟩
    case round =>
      obtain ⟨k, rfl, HJ, hkk, hkl⟩ := hrel
      by_cases hk2 : k < L
      · obtain ⟨bb, ob, rfl, gb⟩ : ∃ b1 o : Nat, b = some ⟨b1, o, none⟩ ∧ ∀ i, i < L → w3.cell? ⟨b1, o + i * 2, none⟩ = some (.int .i64 ((n + i : Nat) : Int)) ∧ ∃ gv, w3.cell? ⟨b1, o + i * 2 + 1, none⟩ = some gv ∧ GiftsV w3 gv [] := by
          rcases G3.out.2 with ⟨_, _, e, e2⟩ | ⟨b, o, c, e, _, _, _, h⟩
          · have := congrArg List.length e2
            rw [List.length_map, List.length_range'] at this
            simp at this; omega
          · rw [List.length_map, List.length_range'] at e h
            cases e
            refine ⟨b, o, rfl, fun i hi => ?_⟩
            have := h i hi
            rw [arb_get n L i hi] at this
            exact this
        obtain ⟨a0', gv, a1', hgv⟩ := gb k hk2
        obtain ⟨ga, gc, rfl, _, _⟩ := hgv.len
        have a0 := HJ.out.keeps a0'
        have a1 := HJ.out.keeps a1'
        clear gb a0' a1' hgv
        have f1 : (((n + k : Nat) : Int) != (n : Int) + (k : Int)) = false := by simp
        go_wp2_with fail
        go_roundg (L + 1 - (k + 1))
        case rel => exact ⟨k + 1, by go_num, HJ.out.alloc _, by omega, by omega⟩
        case measure => omega
      · have G4 := hidd (G3.out.1.trans HJ.out)
        clear HJ
        go_wp2_with fail
        refine (HC.out 13 0 _ (by omega) (by omega)).mono ?_; rintro e w5 ⟨rfl, g5⟩
        have G5 := hidd (G4.out.trans g5)
        clear g5
        go_wp2_with fail
        refine (HC.out 2 1 _ (by omega) (by omega)).mono ?_; rintro e w6 ⟨rfl, g6⟩
        have G6 := hidd (G5.out.trans g6)
        clear g6
        go_wp2_with fail
        refine (HK.out w6.heap.size _ (G6.out.alloc _) (heap_alloc_new w6 _)).mono ?_; rintro e w7 ⟨rfl, g7⟩
        have G7 := hidd ((G6.out.alloc _).trans g7)
        clear g7
        go_wp2_with fail
        go_ret
        exact ⟨rfl, G7.out⟩
end
end Go.Proofs.YtmkldfjcpmoajaaDoor
