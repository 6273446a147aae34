/- AutoLeast's apart: two states of a canonical automaton are told apart. -/
import Derived.Test.YtkkdpafkafjfgaaTwLwK
import Derived.Test.YtkkdpafkafjfgaaTwAuCc
import Derived.Deep.DeepCutAuto
import Derived.Test.YtkkdpafkafjfgaaTwBase
import Derived.Test.YtkkdpafkafjfgaaTwScTr
import Derived.Lib.ItoaWalk
namespace Go.Proofs.Ytkkdpafkafjfgaa
open Go.RowKit RR
set_option linter.unusedVariables false
set_option linter.unusedSimpArgs false
set_option maxRecDepth 100000
theorem no_slot {shs : List Sh} {B : Nat} (h : ∀ s ∈ shs, (∃ v, s = .val v) ∨ s = .fact fun _ _ => True) : ∀ i v w w', LowRl B w w' → shF shs i v w → shF shs i v w' := by
  intro i v w w' _ hs
  unfold shF at hs ⊢
  rw [List.getD_eq_getElem?_getD] at hs ⊢
  cases hg : shs[i]? with
  | none => trivial
  | some s =>
    rw [hg] at hs
    rcases h s (List.mem_of_getElem? hg) with ⟨u, rfl⟩ | rfl
    · exact hs
    · trivial
theorem idx_bools {b o n c i : Nat} (h : i < n) (w : World) : (Instr.indexAt 24 (.slice (some ⟨b, o, none⟩) n c) (.int .i64 (i : Nat))).run Try.prog w = .ok (.pointer (some ⟨b, o + i, none⟩)) w := by
  have := index_sl (sz := 1) Try.underlying24 (by kernel_rfl) (fun w => size_of (by kernel_rfl) w) (b := b) (o := o) (c := c) h w
  rwa [Nat.mul_one] at this
theorem idx_ints {b o n c i : Nat} (h : i < n) (w : World) : (Instr.indexAt 41 (.slice (some ⟨b, o, none⟩) n c) (.int .i64 (i : Nat))).run Try.prog w = .ok (.pointer (some ⟨b, o + i, none⟩)) w := by
  have := index_sl (sz := 1) Try.underlying41 (by kernel_rfl) (fun w => size_of (by kernel_rfl) w) (b := b) (o := o) (c := c) h w
  rwa [Nat.mul_one] at this
end Go.Proofs.Ytkkdpafkafjfgaa

namespace Go.Proofs.Ytkkdpafkafjfgaa
open Go.RowKit
set_option linter.unusedVariables false
theorem enc_digit (d : Nat) (h : d < 10) : Utf8.encode ((48 : Int) + (d : Int)) = ⟨#[UInt8.ofNat (48 + d)]⟩ := by
  rcases d with _ | _ | _ | _ | _ | _ | _ | _ | _ | _ | d
  all_goals first | (simp [Utf8.encode]; done) | omega | (unfold Utf8.encode; simp; rfl)
theorem digText_lt {n : Nat} (h : n < 10) : digText n = Utf8.encode ((48 : Int) + (n : Int)) := by
  rw [enc_digit n h]
  unfold digText
  rw [Lib.decDigits, dif_pos h]
theorem digText_ge {n : Nat} (h : ¬ n < 10) : digText n = digText (n / 10) ++ Utf8.encode ((48 : Int) + ((n % 10 : Nat) : Int)) := by
  rw [enc_digit _ (Nat.mod_lt _ (by omega))]
  unfold digText
  rw [Lib.decDigits, dif_neg h]
  apply ByteArray.ext
  simp
theorem decDigits_le : ∀ n : Nat, (Lib.decDigits n).length ≤ n + 1 := fun n => by
  induction n using Nat.strongRecOn with
  | _ n ih =>
    rw [Lib.decDigits]
    split
    · simp
    · have := ih (n / 10) (by omega)
      simp; omega
theorem digText_size (n : Nat) : (digText n).size ≤ n + 1 := decDigits_le n
theorem enc_size (r : Nat) (h : r < 10) : (Utf8.encode ((48 : Int) + (r : Int))).size = 1 := by rw [enc_digit r h]; rfl
set_option maxRecDepth 100000 in
set_option maxHeartbeats 1000000 in
theorem Digits_any (n : Nat) : ∀ (w : World), n ≤ 1000000 → Calls Try.prog 38 #[.int .i64 n] w fun e w' => e = .returned (.string (digText n)) ∧ w' = w := by
  induction n using Nat.strongRecOn with
  | _ n ih =>
    intro w hn
    by_cases h : n < 10
    · have d1 : decide ((n : Int) < 10) = true := decide_eq_true (by omega)
      have d2 : decide (n < 10) = true := decide_eq_true h
      have HE := hidd (digText_lt h)
      have w2 : IntKind.i32.wrap (48 + (n : Int)) = 48 + (n : Int) := by unfold IntKind.wrap; simp [IntKind.bits, IntKind.signed]; omega
      clear ih
      go_enter Try.func38, Try.ntmps38
      go_wp2_with fail
      go_ret
      exact ⟨by rw [HE.out]; rfl, rfl⟩
    · have d1 : decide ((n : Int) < 10) = false := decide_eq_false (by omega)
      have d2 : decide (n < 10) = false := decide_eq_false h
      have HE := hidd (digText_ge h)
      have HC := hidd (fun w => ih (n / 10) (by omega) w (by omega))
      have hs : (digText (n / 10)).size ≤ 1000001 := by have := digText_size (n / 10); omega
      have hr : n % 10 < 10 := Nat.mod_lt _ (by omega)
      have hu := enc_size (n % 10) hr
      have w2 : IntKind.i32.wrap (48 + ((n % 10 : Nat) : Int)) = 48 + ((n % 10 : Nat) : Int) := by unfold IntKind.wrap; simp [IntKind.bits, IntKind.signed]; omega
      have w3 : IntKind.i32.wrap (48 + (n : Int) % 10) = 48 + (n : Int) % 10 := by have := w2; simpa using this
      have hz : ((n % 10 : Nat) : Int) = (n : Int) % 10 := by simp
      rw [hz] at HE hu
      clear ih hr w2
      generalize digText (n / 10) = T at HC HE hs
      clear hz
      go_enter Try.func38, Try.ntmps38
      go_wp2_with fail
      refine (HC.out w).mono ?_; rintro r0 w' ⟨rfl, rfl⟩
      go_wp2_with fail
      go_ret
      exact ⟨by rw [HE.out]; rfl, rfl⟩
end Go.Proofs.Ytkkdpafkafjfgaa
