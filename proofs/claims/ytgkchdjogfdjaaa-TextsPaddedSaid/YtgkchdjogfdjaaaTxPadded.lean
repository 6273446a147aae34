/- TextsPadded: for every text, length and sign the law returns true and writes nothing that was there. No condition. -/
import Derived.Test.YtgkchdjogfdjaaaTxReverse
import Derived.Test.YtgkchdjogfdjaaaTxPad
namespace Go.Proofs.Ytgkchdjogfdjaaa
open Go.RowKit
set_option linter.unusedVariables false

theorem rep_one (l : List UInt8) (h : l.length = 1) (k i : Nat) (hi : i < k) (m : List UInt8) : ((Lib.repeatL l k ++ m).drop i).take 1 = l := by
  match l, h with
  | [c], _ =>
    have e : Lib.repeatL [c] k = List.replicate k c := by
      have := Lib.repeatL_replicate c 1 k
      simpa using this
    rw [e, List.drop_append_of_le_length (by simp; omega), List.drop_replicate]
    obtain ⟨d, hd⟩ : ∃ d, k - i = d + 1 := ⟨k - i - 1, by omega⟩
    rw [hd, List.replicate_succ]; simp

theorem padE_zero {s f : ByteArray} {n : Int} (h : padE s n f = 0) : s.size ≤ 65536 ∧ f.size = 1 ∧ n ≤ 65536 := by
  unfold padE at h
  by_cases a : 65536 < s.size
  · rw [if_pos a] at h; omega
  · rw [if_neg a] at h
    by_cases b : f.size ≠ 1
    · rw [if_pos b] at h; omega
    · rw [if_neg b] at h
      by_cases c : 65536 < n
      · rw [if_pos c] at h; omega
      · omega

theorem TextsPadded_walk (s : ByteArray) (n : Int) (f : ByteArray) (w : World) (hs : s.size ≤ maxLen) (hn : (Lit.int .i64 n).wf = true) (hf : f.size ≤ maxLen) :
    Calls Try.prog 9 #[.string s, .int .i64 n, .string f] w fun e w' => e = .returned (.bool true) ∧ Grew w w' := by
  have bn := bd_i64 hn
  clear hn
  by_cases h1 : padE s n f = 0
  · obtain ⟨z1, z2, z3⟩ := padE_zero h1
    obtain ⟨k, hk⟩ : ∃ k : Nat, k = (n - s.size).toNat := ⟨_, rfl⟩
    have hkn : (k = 0 ∧ n ≤ s.size) ∨ (0 < k ∧ n = s.size + k) := by omega
    have Z2 := hidd z2
    have H1 := hidd h1
    have HK := hidd hk
    have zf : f.size ≤ 65536 := by omega
    clear h1 hk z2
    go_enter Try.func9, Try.ntmps9
    go_wp2_with fail
    refine (alive_true _).mono ?_
    rintro e w1 ⟨rfl, g1⟩
    go_wp2_with fail
    refine (Lpad_ok s n f _ H1.out bn.1).mono ?_
    rintro e w2 ⟨a, rfl, ha, g2⟩
    rw [← HK.out] at ha
    have sa : a.size = s.size + k := by
      rw [size_data a, ha, List.length_append, Lib.repeatL_length, ← size_data, ← size_data, Z2.out]; omega
    have HA := hidd ha
    have SA := hidd sa
    clear ha sa
    go_wp2_with fail
    refine (Rpad_ok s n f _ H1.out bn.1).mono ?_
    rintro e w3 ⟨b, rfl, hb, g3⟩
    rw [← HK.out] at hb
    have sb : b.size = s.size + k := by
      rw [size_data b, hb, List.length_append, Lib.repeatL_length, ← size_data, ← size_data, Z2.out]; omega
    have HB := hidd hb
    have sab : b.size = a.size := by rw [sb, SA.out]
    have SB := hidd sb
    have sak : (a.size : Int) - s.size = k := by rw [SA.out]; omega
    have hak : (a.extract k a.size).toList = s.toList := by
      rw [Lib.extract_toList, Lib.toList_data, HA.out, List.drop_left' (by rw [Lib.repeatL_length, ← size_data, Z2.out, Nat.mul_one]), List.take_of_length_le (by rw [← size_data, SA.out]; omega)]
    have hbk : (b.extract 0 s.size).toList = s.toList := by
      rw [Lib.extract_toList, Lib.toList_data, HB.out, List.drop_zero, Nat.sub_zero, size_data s, List.take_left]
    clear hb sb
    have SAB := hidd sab
    have SAK := hidd sak
    have HAK := hidd hak
    have HBK := hidd hbk
    clear sab sak hak hbk
    have t1 : ((a.size : Int) != b.size) = false := by have := SAB.out; simp; omega
    have t2 : ¬ (a.size : Int) < s.size := by have := SA.out; omega
    have t4 : ¬ (a.size : Int) < n := by have := SA.out; omega
    have ta : a.size ≤ 65536 + 65536 := by have := SA.out; omega
    have tk : k ≤ 65536 + 65536 := by omega
    have fin : ∀ (K : Prop), K → K := fun _ h => h
    clear fin
    rcases hkn with ⟨hk0, hn0⟩ | ⟨hkp, hnk⟩
    · have HK0 := hidd hk0
      have t3 : ¬ (s.size : Int) < a.size := by have := SA.out; omega
      have sak : (a.size : Int) - s.size = 0 := by have := SAK.out; omega
      have hak : a.toList = s.toList := by rw [Lib.toList_data, Lib.toList_data, HA.out, HK0.out]; rfl
      have hbk := HBK.out
      have tb : s.size ≤ b.size := by have := SAB.out; omega
      clear hk0
      go_wp2_with fail
      go_loop [12] (fun u => u = .int .i64 0) (fun u => 0)
      case atStart => rfl
      case round =>
        subst hrel
        go_wp2_with fail
        go_ret
        exact ⟨rfl, g1.trans (g2.trans g3)⟩
    · have HNK := hidd hnk
      have t5 : ((a.size : Int) != n) = false := by have := SA.out; have := HNK.out; simp; omega
      have t3 : (s.size : Int) < a.size := by have := SA.out; omega
      have sak := SAK.out
      have tb : s.size + k ≤ b.size := by have := SB.out; omega
      clear hnk
      go_wp2_with fail
      clear t1 t2 t3 t4 t5 sak
      go_loop [12] (fun u => ∃ i : Nat, i ≤ k ∧ u = .int .i64 i) (fun u => k - (intOf u).toNat)
      case atStart => exact ⟨0, Nat.zero_le _, rfl⟩
      case round =>
        obtain ⟨i, hi, rfl⟩ := hrel
        by_cases hlt : i < k
        · have q1 : (a.extract i (i + 1)).toList = f.toList := by
            rw [Lib.extract_toList, Lib.toList_data, HA.out, Nat.add_sub_cancel_left]
            exact rep_one _ (by rw [← size_data]; exact Z2.out) _ _ hlt _
          have q2 : (b.extract (s.size + i) (s.size + i + 1)).toList = f.toList := by
            rw [Lib.extract_toList, Lib.toList_data, HB.out, Nat.add_sub_cancel_left, ← List.drop_drop, size_data s, List.drop_left]
            have := rep_one _ (by rw [← size_data]; exact Z2.out) _ _ hlt []
            rwa [List.append_nil] at this
          have q3 : i + 1 ≤ a.size := by have := SA.out; omega
          have q4 : s.size + i + 1 ≤ b.size := by omega
          go_wp2_with fail
          go_round
          case rel => exact ⟨i + 1, by omega, by go_num⟩
          case measure => simp [intOf]; omega
        · have hik : i = k := by omega
          have hak := HAK.out
          have hbk := HBK.out
          have q5 : k ≤ a.size := by have := SA.out; omega
          have q6 : s.size ≤ b.size := by omega
          go_wp2_with fail
          go_ret
          exact ⟨rfl, g1.trans (g2.trans g3)⟩
  · have h1' : (padE s n f != 0) = true := by simpa using h1
    have H1 := hidd h1
    clear h1
    go_enter Try.func9, Try.ntmps9
    go_wp2_with fail
    refine (alive_true _).mono ?_
    rintro e w1 ⟨rfl, g1⟩
    go_wp2_with fail
    refine (Lpad_err s n f _ hs hf H1.out).mono ?_
    rintro e w2 ⟨rfl, g2⟩
    go_wp2_with fail
    refine (Rpad_err s n f _ hs hf H1.out).mono ?_
    rintro e w3 ⟨rfl, g3⟩
    go_wp2_with fail
    go_ret
    exact ⟨rfl, g1.trans (g2.trans g3)⟩
end Go.Proofs.Ytgkchdjogfdjaaa
