/- ScanCalls: the walk. Conditions: what the arguments are read as; the library's table of powers of ten. -/
import Derived.Test.YtmkldfjcpmoajabDoorScShape
import Derived.Test.YtmkldfjcpmoajabDoorScPlain
import Derived.StillTailTactics
namespace Go.Proofs.YtmkldfjcpmoajabDoor
open Go.RowKit
set_option linter.unusedVariables false
section
variable {R : List Rule} {w : World} {rv : Value} {s : ByteArray}
theorem callP_at (m : ByteArray) (w : World) (h : m.size ≤ maxLen) : PatV w (.slice none 0 0) (callP m) := ⟨kids_none w, ⟨by show (-9223372036854775808 : Int) ≤ 24; omega, by show (24 : Int) ≤ 9223372036854775807; omega⟩, ⟨by show (-9223372036854775808 : Int) ≤ 0; omega, by show (0 : Int) ≤ 9223372036854775807; omega⟩, Nat.zero_le _, h⟩
set_option maxRecDepth 100000 in
set_option maxHeartbeats 4000000 in
theorem ScanCalls_walk (which at_ : Int) (hR : RulesAt w rv R) (hwh : -9223372036854775808 ≤ which ∧ which ≤ 9223372036854775807) (hs : s.size ≤ maxLen) (hat : -9223372036854775808 ≤ at_ ∧ at_ ≤ 9223372036854775807) (hT : TabP w) :
    Calls Tryd.prog 6 #[rv, .int .i64 which, .string s, .int .i64 at_] w fun e w' => e = .returned (.bool true) ∧ Grew w w' := by
  have HAl : Hid (∀ w1, Grew w w1 → Calls Tryd.prog 9 #[] w1 fun e w' => e = .returned (.bool true) ∧ Grew w1 w') := fun w1 g => alive_any w1 (hT.kept g)
  by_cases hr : which < 0 ∨ (R.length : Int) ≤ which
  · obtain ⟨ra, rc, rfl, _⟩ := hR.len
    have hr2 : which < 0 ∨ (0 ≤ which ∧ (R.length : Int) ≤ which) := by omega
    clear hr hT hat hR hs
    rcases hr2 with h | h
    all_goals
      go_enter Tryd.func6, Tryd.ntmps6
      go_wp2_with fail
      refine (HAl.out _ (Grew.refl w)).mono ?_; rintro e w1 ⟨rfl, g1⟩
      have HG := hidd g1
      clear g1
      go_wp2_with fail
      go_ret
      exact ⟨rfl, HG.out⟩
  · obtain ⟨k, rfl⟩ : ∃ k : Nat, which = k := ⟨which.toNat, by omega⟩
    have hk : k < R.length := by omega
    obtain ⟨b, o, c, rfl, h0, hlc, hcm, hall⟩ : ∃ b o c : Nat, rv = .slice (some ⟨b, o, none⟩) R.length c ∧ 0 < R.length ∧ R.length ≤ c ∧ c ≤ maxLen ∧ ∀ i, i < R.length → w.cell? ⟨b, o + i * 6, none⟩ = some (.string (R.getD i Rule.zero).1) ∧ (R.getD i Rule.zero).1.size ≤ maxLen ∧ PatAt w b (o + i * 6 + 1) (R.getD i Rule.zero).2 := by
      rcases hR with ⟨_, _, _, e⟩ | h
      · rw [e] at hk; simp at hk
      · exact h
    obtain ⟨kv, hru⟩ := rule_open (r := R.getD k Rule.zero) (hall k hk)
    have hmem : R.getD k Rule.zero ∈ R := by
      rw [List.getD_eq_getElem?_getD, List.getElem?_eq_getElem hk]; exact List.getElem_mem hk
    have HA := hidd (call_alike (R := R) (s := s) hmem at_)
    obtain ⟨r, hrr⟩ : ∃ r, R.getD k Rule.zero = r := ⟨_, rfl⟩
    rw [hrr] at hru HA
    clear hrr hmem hall
    have HK : Hid (∀ w1, Grew w w1 → Calls Tryd.prog 17 #[.slice (some ⟨b, o, none⟩) R.length c, .agg #[.int .i64 24, .string ⟨#[]⟩, .int .i64 0, .string r.1, .slice none 0 0], .agg #[.int .i64 r.2.kind, .string r.2.text, .int .i64 r.2.n, .string r.2.name, kv], .string s, .int .i64 at_] w1 fun e w' => e = .returned (.bool true) ∧ Grew w1 w') :=
      fun w1 g => (alike_any (p := callP r.1) (q := r.2) (kv := .slice none 0 0) (kv' := kv) at_ (hR.kept g) (callP_at r.1 w1 hru.hs) (hru.pat.kept g) hs (hT.kept g)).mono fun e w' h => ⟨by rw [h.1, HA.out], h.2⟩
    obtain ⟨kb, kn, kc, rfl⟩ := kids_form hru.pat.kids
    have HC : Hid (∀ w1, Grew w w1 → w1.cell? ⟨b, o + k * 6, none⟩ = some (.string r.1) ∧ w1.cell? ⟨b, o + k * 6 + 1, none⟩ = some (.int .i64 r.2.kind) ∧ w1.cell? ⟨b, o + k * 6 + 1 + 1, none⟩ = some (.string r.2.text) ∧ w1.cell? ⟨b, o + k * 6 + 1 + 2, none⟩ = some (.int .i64 r.2.n) ∧ w1.cell? ⟨b, o + k * 6 + 1 + 3, none⟩ = some (.string r.2.name) ∧ w1.cell? ⟨b, o + k * 6 + 1 + 4, none⟩ = some (.slice kb kn kc)) :=
      fun w1 g => ⟨g.keeps hru.c, g.keeps hru.node.c0, g.keeps hru.node.c1, g.keeps hru.node.c2, g.keeps hru.node.c3, g.keeps hru.node.c4⟩
    have hRl : R.length ≤ 9223372036854775807 := by unfold maxLen at hcm; omega
    clear hr hT hat hR hs HA hru hcm hwh
    go_enter Tryd.func6, Tryd.ntmps6
    go_wp2_with fail
    refine (HAl.out _ (Grew.refl w)).mono ?_; rintro e w1 ⟨rfl, g1⟩
    have G1 := hidd g1
    obtain ⟨c0, n0, n1, n2, n3, n4⟩ := HC.out w1 g1
    clear g1 HAl HC
    go_wp2_with fail
    go_still_tail 14, (by kernel_rfl)
    change wpList _ _ _ _ _ w1.drew
    have G2 := hidd (G1.out.drew)
    generalize w1.drew = w2 at G2 ⊢
    go_wp2_with fail
    refine (HK.out _ G2.out).mono ?_; rintro e w3 ⟨rfl, g3⟩
    have G3 := hidd (G2.out.trans g3)
    clear g3
    go_wp2_with fail
    go_ret
    exact ⟨rfl, G3.out⟩
end
end Go.Proofs.YtmkldfjcpmoajabDoor
